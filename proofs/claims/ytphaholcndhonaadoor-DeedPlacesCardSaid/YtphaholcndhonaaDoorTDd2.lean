/- A state of all that is kept: what is wrong with it. No condition. -/
import Derived.Test.YtphaholcndhonaaDoorTDd
import Derived.Test.YtphaholcndhonaaDoorTGr7
namespace Go.Proofs.YtphaholcndhonaaDoor
open Go Go.RowKit Go.Proofs.YtphaholcndhonaaDoor.Ab
set_option linter.unusedSimpArgs false
set_option linter.unusedVariables false

/-- a state: tables of each user, grants, how often each one asked -/
structure Sta where
  t : List (List Tbl)
  g : List Gr
  a : List Int
def eLst (l : List Tbl) : List E := (l.map eTab).flatten
def eTs (t : List (List Tbl)) : List E := (t.map eLst).flatten
def eSta (s : Sta) : List E := eTs s.t ++ (eGrs s.g :: s.a.map eI)
structure Sta.ok (s : Sta) : Prop where
  t3 : s.t.length = 3
  l2 : ∀ l ∈ s.t, l.length = 2
  tb : ∀ l ∈ s.t, ∀ x ∈ l, x.ok
  a3 : s.a.length = 3
def tb0 : Tbl := ⟨false, [], [], []⟩
theorem flatGetM {α β : Type} (f : α → List β) (z : Nat) (a0 : α) : ∀ (l : List α), (∀ a ∈ l, (f a).length = z) → ∀ i, i < l.length → ((l.map f).flatten.drop (i * z)).take z = f (l.getD i a0)
  | a :: l, hf, 0, _ => by
    have ha := hf a List.mem_cons_self
    rw [List.map_cons, List.flatten_cons, Nat.zero_mul, List.drop_zero, ← ha, List.take_left']
    · rfl
    · rfl
  | a :: l, hf, i + 1, h => by
    have ha := hf a List.mem_cons_self
    rw [List.map_cons, List.flatten_cons, show (i + 1) * z = (f a).length + i * z by rw [ha, Nat.add_mul, Nat.one_mul, Nat.add_comm], ← List.drop_drop, List.drop_left']
    · rw [flatGetM f z a0 l (fun x hx => hf x (List.mem_cons_of_mem _ hx)) i (by simpa using h)]
      rfl
    · rfl
theorem flatLenM {α β : Type} (f : α → List β) (z : Nat) : ∀ l : List α, (∀ a ∈ l, (f a).length = z) → (l.map f).flatten.length = l.length * z
  | [], _ => by simp
  | a :: l, hf => by rw [List.map_cons, List.flatten_cons, List.length_append, hf a List.mem_cons_self, flatLenM f z l (fun x hx => hf x (List.mem_cons_of_mem _ hx)), List.length_cons, Nat.add_mul, Nat.one_mul, Nat.add_comm]
theorem getD_mem {α : Type} {l : List α} {i : Nat} {d : α} (h : i < l.length) : l.getD i d ∈ l := by
  rw [List.getD_eq_getElem?_getD, List.getElem?_eq_getElem h]
  exact List.getElem_mem h
section
variable {s : Sta} (h : s.ok)
include h
theorem lstLen {l : List Tbl} (hl : l ∈ s.t) : (eLst l).length = 38 := by
  unfold eLst
  rw [flatLenM eTab 19 l (fun x hx => tabLen (h.tb l hl x hx)), h.l2 l hl]
theorem tsLen : (eTs s.t).length = 114 := by
  unfold eTs
  rw [flatLenM eLst 38 s.t (fun x hx => lstLen h hx), h.t3]
theorem staLen : (eSta s).length = 118 := by
  unfold eSta
  rw [List.length_append, tsLen h, List.length_cons, List.length_map, h.a3]
theorem staT : List.take 114 (List.drop (0 + 0) (eSta s)) = eTs s.t := by
  rw [← tsLen h]
  exact List.take_left' rfl
theorem staA : List.take 3 (List.drop (0 + 115) (eSta s)) = s.a.map eI := by
  have h1 := tsLen h
  unfold eSta
  rw [show eTs s.t ++ (eGrs s.g :: s.a.map eI) = (eTs s.t ++ [eGrs s.g]) ++ s.a.map eI by simp, show 0 + 115 = (eTs s.t ++ [eGrs s.g]).length by rw [List.length_append, h1]; rfl, List.drop_left' rfl]
  exact List.take_of_length_le (by rw [List.length_map, h.a3]; exact Nat.le_refl _)
theorem staG : (eSta s).getD (0 + 114) E.dflt = eGrs s.g := by
  have h1 := tsLen h
  unfold eSta
  rw [List.getD_eq_getElem?_getD, List.getElem?_append_right (by omega), show 0 + 114 - (eTs s.t).length = 0 by omega]
  rfl
theorem tsGet {i : Nat} (hi : i < 3) : ((eTs s.t).drop (i * 38)).take 38 = eLst (s.t.getD i []) := flatGetM eLst 38 [] s.t (fun x hx => lstLen h hx) i (by rw [h.t3]; exact hi)
theorem lstGet {l : List Tbl} (hl : l ∈ s.t) {i : Nat} (hi : i < 2) : ((eLst l).drop (i * 19)).take 19 = eTab (l.getD i tb0) := flatGetM eTab 19 tb0 l (fun x hx => tabLen (h.tb l hl x hx)) i (by rw [h.l2 l hl]; exact hi)
end
/-- what is wrong with a table at its place -/
def tbB (t : Tbl) : Bool := bif t.th then decide (tabF t = 0) else blF t
def dup (t u : Tbl) : Bool := t.th && u.th && decide (u.n = t.n)
def lsG : List Tbl → List Tbl → Bool
  | _, [] => true
  | pre, t :: r => tbB t && !(pre.any (dup t)) && lsG (pre ++ [t]) r
def thA (s : Sta) (g : Gr) : Bool := ((s.t.getD (g.ob.toNat / 4) []).getD (g.ob.toNat / 2 % 2) tb0).th
def askB (n : Int) : Bool := decide (0 ≤ n) && decide (n ≤ 12)
def stG (s : Sta) : Bool := s.t.all (lsG []) && decide (gfaultF s.g = 0) && s.g.all (thA s) && s.a.all askB
def staF (s : Sta) : Int := if stG s = true then 0 else 11
theorem gfL_ok : ∀ {l : List Gr} {last : Int}, gfL l last = 0 → ∀ g ∈ l, g.ok
  | [], _, _, g, hg => absurd hg List.not_mem_nil
  | x :: r, last, h, g, hg => by
    rw [gfL] at h
    split at h
    · contradiction
    · rename_i h1
      split at h
      · exact absurd h (by decide)
      · rcases List.mem_cons.1 hg with rfl | hg
        · exact ok_of (Classical.not_not.1 h1)
        · exact gfL_ok h g hg
theorem gfault_ok {l : List Gr} (h : gfaultF l = 0) : l.length ≤ 96 ∧ ∀ g ∈ l, g.ok := by
  unfold gfaultF at h
  split at h
  · exact absurd h (by decide)
  · rename_i h1
    split at h
    · contradiction
    · rename_i h2
      exact ⟨by omega, gfL_ok (Classical.not_not.1 h2)⟩
theorem all_split {α : Type} (f : α → Bool) (l : List α) (i : Nat) (d : α) (h : i < l.length) (hf : f (l.getD i d) = false) : l.all f = false := by
  cases hl : l.all f with
  | false => rfl
  | true => rw [List.all_eq_true] at hl; rw [hl _ (getD_mem h)] at hf; cases hf
theorem stG_t {s : Sta} (h : s.t.all (lsG []) = false) : staF s = 11 := by
  unfold staF stG
  rw [h]
  rfl
theorem stG_g {s : Sta} (h : gfaultF s.g ≠ 0) : staF s = 11 := by
  unfold staF stG
  rw [decide_eq_false h, Bool.and_false]
  rfl
theorem stG_h {s : Sta} (h : s.g.all (thA s) = false) : staF s = 11 := by
  unfold staF stG
  rw [h, Bool.and_false]
  rfl
theorem stG_a {s : Sta} (h : s.a.all askB = false) : staF s = 11 := by
  unfold staF stG
  rw [h, Bool.and_false]
  rfl
theorem stG_0 {s : Sta} (h1 : s.t.all (lsG []) = true) (h2 : gfaultF s.g = 0) (h3 : s.g.all (thA s) = true) (h4 : s.a.all askB = true) : staF s = 0 := by
  unfold staF stG
  rw [h1, h2, h3, h4]
  rfl
end Go.Proofs.YtphaholcndhonaaDoor
