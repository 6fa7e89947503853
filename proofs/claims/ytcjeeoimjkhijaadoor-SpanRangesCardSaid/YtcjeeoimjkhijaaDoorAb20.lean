/- A run of operations whose values are written out as it goes. No condition. -/
import Derived.Test.YtcjeeoimjkhijaaDoorAb19
namespace Go.Proofs.YtcjeeoimjkhijaaDoor.Ab
open Go Go.RowKit

section
variable {α : Type}
def fN (n : Nat) (k : Nat → α) : α :=
  match n with
  | 0 => k 0
  | n + 1 => k (n + 1)
def fE (x : E) (k : E → α) : α :=
  match x with
  | .v (.int a n) => k (.v (.int a n))
  | .v (.bool b) => k (.v (.bool b))
  | .v (.string s) => k (.v (.string s))
  | .v x => k (.v x)
  | .sl xs => k (.sl xs)
def fD0 (x : D0) (k : D0 → α) : α :=
  match x with
  | .e x => fE x fun x => k (.e x)
  | .nil => k .nil
  | .ptr i v o => fN v fun v => k (.ptr i v o)
  | .rptr i v a b => fN v fun v => k (.rptr i v a b)
  | .eptr cs => k (.eptr cs)
  | .own i v => fN v fun v => k (.own i v)
  | .clo f c => k (.clo f c)
  | .bsl i v o z n => fN v fun v => k (.bsl i v o z n)
def fL (xs : List D0) (k : List D0 → α) : α :=
  match xs with
  | [] => k []
  | x :: r => fD0 x fun x => fL r fun r => k (x :: r)
def fC (c : Cs) (k : Cs → α) : α :=
  match c with
  | .es xs => k (.es xs)
  | .ds xs => fL xs fun xs => k (.ds xs)
def fD (d : D) (k : D → α) : α :=
  match d with
  | .any => k .any
  | .one x => fD0 x fun x => k (.one x)
  | .agg c => fC c fun c => k (.agg c)
  | .tup xs => k (.tup xs)
  | .gd q d => fD d fun d => k (.gd q d)
def fB (b : Blk) (k : Blk → α) : α :=
  match b with
  | ⟨v, .box c, p⟩ => fN v fun v => fC c fun c => k ⟨v, .box c, p⟩
  | ⟨v, .row z xs, p⟩ => fN v fun v => k ⟨v, .row z xs, p⟩
def fU (us : Upds) (k : Upds → α) : α :=
  match us with
  | [] => k []
  | (i, b) :: r => fB b fun b => fU r fun r => k ((i, b) :: r)

theorem fN_eq (n : Nat) (k : Nat → α) : fN n k = k n := by cases n <;> rfl
theorem fE_eq (x : E) (k : E → α) : fE x k = k x := by
  cases x with
  | v x => cases x <;> rfl
  | sl xs => rfl
theorem fD0_eq (x : D0) (k : D0 → α) : fD0 x k = k x := by
  cases x <;> simp only [fD0, fE_eq, fN_eq]
theorem fL_eq (xs : List D0) (k : List D0 → α) : fL xs k = k xs := by
  induction xs generalizing k with
  | nil => rfl
  | cons x r ih => simp only [fL, fD0_eq, ih]
theorem fC_eq (c : Cs) (k : Cs → α) : fC c k = k c := by cases c <;> simp only [fC, fL_eq]
theorem fD_eq (d : D) (k : D → α) : fD d k = k d := by
  induction d generalizing k with
  | gd q d ih => simp only [fD, ih]
  | any => rfl
  | one x => simp only [fD, fD0_eq]
  | agg c => simp only [fD, fC_eq]
  | tup xs => rfl
theorem fB_eq (b : Blk) (k : Blk → α) : fB b k = k b := by
  obtain ⟨v, bd, p⟩ := b
  cases bd <;> simp only [fB, fN_eq, fC_eq]
theorem fU_eq (us : Upds) (k : Upds → α) : fU us k = k us := by
  induction us generalizing k with
  | nil => rfl
  | cons u r ih => obtain ⟨i, b⟩ := u; simp only [fU, fB_eq, ih]
end

def updM (m : Mem) : Upds → Mem
  | [] => m
  | [(i, b)] => upd m i (some b)
  | (i, b) :: r => updM (upd m i (some b)) r
theorem updM_eq : ∀ (us : Upds) (m : Mem), updM m us = appU m us
  | [], m => rfl
  | [(i, b)], m => rfl
  | (i, b) :: u :: r, m => by rw [updM, updM_eq (u :: r)]; rfl; simp

/-- the conditions that came up -/
def AllP : List Prop → Prop
  | [] => True
  | [p] => p
  | p :: r => p ∧ AllP r
theorem AllP_cons {p : Prop} {l : List Prop} : AllP (p :: l) ↔ p ∧ AllP l := by
  cases l with
  | nil => simp [AllP]
  | cons q r => rfl

structure Ran where
  ps : List Prop
  tm : Nat → D
  mem : Mem
  rest : List Oper

/-- the operations ahead of the next call of a function, the values written out -/
def runF (T : Nat → Option TI) (nt : Nat) (ops : Array Oper) : List Oper → List Prop → (Nat → D) → Mem → Option Ran
  | [], ps, tm, m => some ⟨ps, tm, m, []⟩
  | o :: r, ps, tm, m =>
    bif isGo o.op then some ⟨ps, tm, m, o :: r⟩ else
    match stepE T nt ops ⟨tm, m⟩ o with
    | some ⟨φ, d, us⟩ => fD d fun d => fU us fun us =>
      match o.dst, us with
      | some t, [] => runF T nt ops r (φ :: ps) (upd tm t d) m
      | some t, [(i, b)] => runF T nt ops r (φ :: ps) (upd tm t d) (upd m i (some b))
      | some t, us => runF T nt ops r (φ :: ps) (upd tm t d) (updM m us)
      | none, [(i, b)] => runF T nt ops r (φ :: ps) tm (upd m i (some b))
      | none, us => runF T nt ops r (φ :: ps) tm (updM m us)
    | none => none

section
variable {P : Program} {T : Nat → Option TI} {X : Ctx}
theorem runF_mem (hT : TOk P T) {nt : Nat} (hnt : X.nt = nt) {ops : Array Oper} : ∀ {l : List Oper} {ps : List Prop} {tm : Nat → D} {m : Mem} {q : Ran}, runF T nt ops l ps tm m = some q → (AllP q.ps → AllP ps) ∧ ∀ s'', AllP q.ps → Lex P X ops q.rest ⟨q.tm, q.mem⟩ s'' → Lex P X ops l ⟨tm, m⟩ s''
  | [], ps, tm, m, q, h => by cases h; exact ⟨id, fun s'' _ k => k⟩
  | o :: r, ps, tm, m, q, h => by
    rw [runF] at h
    cases hg : isGo o.op with
    | true => simp only [hg, cond_true, Option.some.injEq] at h; subst h; exact ⟨id, fun s'' _ k => k⟩
    | false =>
      simp only [hg, cond_false] at h
      split at h
      · rename_i φ d us he
        simp only [fD_eq, fU_eq] at h
        have hs : ∀ hφ : φ, OpT P X ops o ⟨tm, m⟩ (St.app ⟨tm, m⟩ o.dst d us) := fun hφ => step_sound hT (ef := ⟨φ, d, us⟩) (by rw [hnt]; exact he) hφ
        have key : runF T nt ops r (φ :: ps) (match o.dst with | some t => upd tm t d | none => tm) (appU m us) = some q := by
          split at h
          · rename_i t hd; rw [hd]; exact h
          · rename_i t i b hd; rw [hd]; exact h
          · rename_i t hd _ _; rw [hd]; rw [updM_eq] at h; exact h
          · rename_i i b hd; rw [hd]; exact h
          · rename_i hd _; rw [hd]; rw [updM_eq] at h; exact h
        obtain ⟨h1, h2⟩ := runF_mem hT hnt key
        exact ⟨fun ha => (AllP_cons.1 (h1 ha)).2, fun s'' ha k => .cons (hs (AllP_cons.1 (h1 ha)).1) (h2 s'' ha k)⟩
      · cases h

/-- operations, up to the next call of a function -/
theorem lex (hT : TOk P T) {nt : Nat} (hnt : X.nt = nt) {ops : Array Oper} {l : List Oper} {tm : Nat → D} {m : Mem} {ps : List Prop} {tm' : Nat → D} {m' : Mem} {rest : List Oper} {s'' : St} (h : runF T nt ops l [] tm m = some ⟨ps, tm', m', rest⟩) (hp : AllP ps) (k : Lex P X ops rest ⟨tm', m'⟩ s'') : Lex P X ops l ⟨tm, m⟩ s'' :=
  (runF_mem hT hnt h).2 s'' hp k
/-- a region without calls -/
theorem reg (hT : TOk P T) {nt : Nat} (hnt : X.nt = nt) {id : Nat} {ops : Array Oper} {tm : Nat → D} {m : Mem} {ps : List Prop} {tm' : Nat → D} {m' : Mem} {Q : Exit → St → Prop} (h : runF T nt ops ops.toList [] tm m = some ⟨ps, tm', m', []⟩) (hp : AllP ps) (k : Q .normal ⟨tm', m'⟩) : Tr P X (.region id ops false) ⟨tm, m⟩ Q :=
  tr_region (lex hT hnt h hp (.nil _)) k
end
end Go.Proofs.YtcjeeoimjkhijaaDoor.Ab
