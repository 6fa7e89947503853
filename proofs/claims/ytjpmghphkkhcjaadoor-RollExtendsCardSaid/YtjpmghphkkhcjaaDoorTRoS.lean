/- Shapes of rolls: plain laws. No condition. -/
import Derived.Test.YtjpmghphkkhcjaaDoorAbEnc
namespace Go.Proofs.YtjpmghphkkhcjaaDoor

abbrev Byt := List UInt8
/-- the greatest power of two below n -/
def hf (n : Nat) : Nat := if n ≤ 2 then 1 else if n ≤ 4 then 2 else if n ≤ 8 then 4 else if n ≤ 16 then 8 else if n ≤ 32 then 16 else 32
theorem hf_lt {n : Nat} (h : 2 ≤ n) : 1 ≤ hf n ∧ hf n < n := by
  unfold hf
  repeat' split
  all_goals omega
theorem half_small : ∀ (n : Fin 65) (j : Fin 6), 2 ^ j.val ≤ hf n.val → (¬ 2 * 2 ^ j.val < n.val → hf n.val = 2 ^ j.val) ∧ (2 * 2 ^ j.val < n.val → j.val + 1 ≤ 5 ∧ 2 ^ (j.val + 1) ≤ hf n.val) := by decide +kernel
theorem half_step {n j : Nat} (hn : n ≤ 64) (hj : j ≤ 5) (h : 2 ^ j ≤ hf n) : (¬ 2 * 2 ^ j < n → hf n = 2 ^ j) ∧ (2 * 2 ^ j < n → j + 1 ≤ 5 ∧ 2 ^ (j + 1) ≤ hf n) := half_small ⟨n, by omega⟩ ⟨j, by omega⟩ h
theorem below_small : ∀ (n : Fin 65) (j : Fin 6), 2 ≤ n.val → hf n.val ≤ 2 ^ j.val → (2 ^ j.val < n.val → hf n.val = 2 ^ j.val) ∧ (n.val ≤ 2 ^ j.val → 1 ≤ j.val ∧ hf n.val ≤ 2 ^ (j.val - 1)) := by decide +kernel
theorem below_step {n j : Nat} (h2 : 2 ≤ n) (hn : n ≤ 64) (hj : j ≤ 5) (h : hf n ≤ 2 ^ j) : (2 ^ j < n → hf n = 2 ^ j) ∧ (n ≤ 2 ^ j → 1 ≤ j ∧ hf n ≤ 2 ^ (j - 1)) := below_small ⟨n, by omega⟩ ⟨j, by omega⟩ h2 h

/-! ### one entry -/
section
variable (P : Byt → Byt → Option Byt)
def stU (b : Bool) (p d : Byt) : Option Byt := bif b then P p d else P d p
def upS : List Bool → List Byt → Byt → Option Byt
  | [], [], d => some d
  | b :: bs, p :: ps, d => (stU P b p d).bind (upS bs ps)
  | _, _, _ => none
theorem upS_nil (b : Bool) (bs : List Bool) (d : Byt) : upS P (bs ++ [b]) [] d = none := by cases bs <;> rfl
theorem upS_snoc (b : Bool) (p : Byt) : ∀ (bs : List Bool) (ps : List Byt) (d : Byt), upS P (bs ++ [b]) (ps ++ [p]) d = (upS P bs ps d).bind (stU P b p)
  | [], [], d => by
    show (stU P b p d).bind (upS P [] []) = stU P b p d
    cases stU P b p d <;> rfl
  | [], q :: qs, d => by
    show (stU P b q d).bind (upS P [] (qs ++ [p])) = none
    cases stU P b q d with
    | none => rfl
    | some x => cases qs <;> rfl
  | c :: cs, [], d => by
    show (stU P c p d).bind (upS P (cs ++ [b]) []) = none
    cases stU P c p d with
    | none => rfl
    | some x => exact upS_nil P b cs x
  | c :: cs, q :: qs, d => by
    show (stU P c q d).bind (upS P (cs ++ [b]) (qs ++ [p])) = ((stU P c q d).bind (upS P cs qs)).bind (stU P b p)
    cases stU P c q d with
    | none => rfl
    | some x => exact upS_snoc b p cs qs x
end
def shI : Nat → Nat → Nat → List Bool
  | 0, _, _ => []
  | f + 1, n, i => if n ≤ 1 then [] else if i < hf n then shI f (hf n) i ++ [false] else shI f (n - hf n) (i - hf n) ++ [true]
def strip : Nat → Nat → Nat → Nat × Nat
  | 0, a, l => (a, l)
  | f + 1, a, l => if a % 2 = 0 ∧ 0 < a then strip f (a / 2) (l / 2) else (a, l)
theorem strip_end (f a l : Nat) (h : ¬ (a % 2 = 0 ∧ 0 < a)) : strip f a l = (a, l) := by
  cases f with
  | zero => rfl
  | succ f => rw [strip, if_neg h]
def shB : Nat → Nat → Nat → List Bool
  | 0, _, _ => []
  | f + 1, a, l => if l = 0 then [] else if a % 2 = 1 ∨ a = l then true :: shB f ((strip 6 a l).1 / 2) ((strip 6 a l).2 / 2) else false :: shB f (a / 2) (l / 2)
theorem shB_zero (f a : Nat) : shB f a 0 = [] := by
  cases f <;> rfl
theorem shI_small : ∀ (n : Fin 65) (i : Fin 64), i.val < n.val → shI 64 n.val i.val = shB 7 i.val (n.val - 1) := by decide +kernel
theorem shI_shB {n i : Nat} (hn : n ≤ 64) (hi : i < n) : shI 64 n i = shB 7 i (n - 1) := shI_small ⟨n, by omega⟩ ⟨i, by omega⟩ hi

/-! ### two rolls -/
section
variable (P : Byt → Byt → Option Byt)
def stX (b : Bool) (p : Byt) (x : Byt × Byt) : Option (Byt × Byt) := bif b then (P p x.1).bind fun a => (P p x.2).map fun c => (a, c) else (P x.2 p).map fun c => (x.1, c)
def exS : List Bool → List Byt → Byt × Byt → Option (Byt × Byt)
  | [], [], x => some x
  | b :: bs, p :: ps, x => (stX P b p x).bind (exS bs ps)
  | _, _, _ => none
theorem exS_nil (b : Bool) (bs : List Bool) (x : Byt × Byt) : exS P (bs ++ [b]) [] x = none := by cases bs <;> rfl
theorem exS_snoc (b : Bool) (p : Byt) : ∀ (bs : List Bool) (ps : List Byt) (d : Byt × Byt), exS P (bs ++ [b]) (ps ++ [p]) d = (exS P bs ps d).bind (stX P b p)
  | [], [], d => by
    show (stX P b p d).bind (exS P [] []) = stX P b p d
    cases stX P b p d <;> rfl
  | [], q :: qs, d => by
    show (stX P b q d).bind (exS P [] (qs ++ [p])) = none
    cases stX P b q d with
    | none => rfl
    | some x => cases qs <;> rfl
  | c :: cs, [], d => by
    show (stX P c p d).bind (exS P (cs ++ [b]) []) = none
    cases stX P c p d with
    | none => rfl
    | some x => exact exS_nil P b cs x
  | c :: cs, q :: qs, d => by
    show (stX P c q d).bind (exS P (cs ++ [b]) (qs ++ [p])) = ((stX P c q d).bind (exS P cs qs)).bind (stX P b p)
    cases stX P c q d with
    | none => rfl
    | some x => exact exS_snoc b p cs qs x
def exO (old : Byt) (kn : Bool) (bs : List Bool) (path : List Byt) : Option (Byt × Byt) :=
  bif kn then exS P bs path (old, old) else match path with
    | [] => none
    | p :: ps => exS P bs ps (p, p)
theorem exO_nil (old : Byt) (kn b : Bool) (bs : List Bool) : exO P old kn (bs ++ [b]) [] = none := by
  cases kn with
  | true => exact exS_nil P b bs _
  | false => rfl
theorem exO_snoc (old : Byt) (kn b : Bool) (bs : List Bool) (p : Byt) (ps : List Byt) : exO P old kn (bs ++ [b]) (ps ++ [p]) = (exO P old kn bs ps).bind (stX P b p) := by
  cases kn with
  | true => exact exS_snoc P b p bs ps _
  | false =>
    cases ps with
    | nil => exact exS_nil P b bs _
    | cons q qs => exact exS_snoc P b p bs qs _
end
def shE : Nat → Nat → Nat → Bool → Bool × List Bool
  | 0, _, _, kn => (kn, [])
  | f + 1, m, n, kn => if m = n then (kn, []) else if m ≤ hf n then ((shE f m (hf n) kn).1, (shE f m (hf n) kn).2 ++ [false]) else ((shE f (m - hf n) (n - hf n) false).1, (shE f (m - hf n) (n - hf n) false).2 ++ [true])
def ostr : Nat → Nat → Nat → Nat × Nat
  | 0, a, l => (a, l)
  | f + 1, a, l => if a % 2 = 1 then ostr f (a / 2) (l / 2) else (a, l)
theorem ostr_end (f a l : Nat) (h : ¬ a % 2 = 1) : ostr f a l = (a, l) := by
  cases f with
  | zero => rfl
  | succ f => rw [ostr, if_neg h]
def eqbE (a b : Bool × List Bool) : Bool := a.1 == b.1 && a.2 == b.2
theorem shE_small : ∀ (n : Fin 65) (m : Fin 64), 1 ≤ m.val → m.val < n.val → (shE 64 m.val n.val true).1 = decide ((ostr 7 (m.val - 1) (n.val - 1)).1 = 0) ∧ (shE 64 m.val n.val true).2 = shB 7 (ostr 7 (m.val - 1) (n.val - 1)).1 (ostr 7 (m.val - 1) (n.val - 1)).2 := by decide +kernel
theorem shE_shB {n m : Nat} (hn : n ≤ 64) (h1 : 1 ≤ m) (hi : m < n) : (shE 64 m n true).1 = decide ((ostr 7 (m - 1) (n - 1)).1 = 0) ∧ (shE 64 m n true).2 = shB 7 (ostr 7 (m - 1) (n - 1)).1 (ostr 7 (m - 1) (n - 1)).2 := shE_small ⟨n, by omega⟩ ⟨m, by omega⟩ h1 hi

/-! ### roots -/
inductive Shp where
  | leaf (i : Nat)
  | node (a b : Shp)
def Shp.eqb : Shp → Shp → Bool
  | .leaf i, .leaf j => Nat.beq i j
  | .node a b, .node c d => Shp.eqb a c && Shp.eqb b d
  | _, _ => false
theorem Shp.eqb_eq : ∀ a b, Shp.eqb a b = true → a = b
  | .leaf i, .leaf j, h => by rw [Nat.eq_of_beq_eq_true h]
  | .node a b, .node c d, h => by
    have h : (Shp.eqb a c && Shp.eqb b d) = true := h
    rw [Bool.and_eq_true] at h
    rw [Shp.eqb_eq a c h.1, Shp.eqb_eq b d h.2]
  | .leaf _, .node _ _, h => nomatch h
  | .node _ _, .leaf _, h => nomatch h
def tdT : Nat → Nat → Nat → Shp
  | 0, _, s => .leaf s
  | f + 1, n, s => if n ≤ 1 then .leaf s else .node (tdT f (hf n) s) (tdT f (n - hf n) (s + hf n))
/-- peaks, the last one first -/
def mrg : List (Nat × Shp) → Nat × Shp → List (Nat × Shp)
  | [], p => [p]
  | q :: qs, p => if q.1 = p.1 then mrg qs (2 * p.1, .node q.2 p.2) else p :: q :: qs
def pkT : Nat → List (Nat × Shp)
  | 0 => []
  | j + 1 => mrg (pkT j) (1, .leaf j)
def bag : List (Nat × Shp) → Shp → Shp
  | [], d => d
  | q :: qs, d => bag qs (.node q.2 d)
def bagT : List (Nat × Shp) → Shp
  | [] => .leaf 0
  | q :: qs => bag qs q.2
theorem bag_small : ∀ n : Fin 64, Shp.eqb (tdT 64 (n.val + 1) 0) (bagT (pkT (n.val + 1))) = true := by decide +kernel
theorem tdT_bag {n : Nat} (h0 : 1 ≤ n) (hn : n ≤ 64) : tdT 64 n 0 = bagT (pkT n) := by
  have h := Shp.eqb_eq _ _ (bag_small ⟨n - 1, by omega⟩)
  dsimp only at h
  rwa [show n - 1 + 1 = n by omega] at h
section
variable (E : Byt → Option Byt) (P : Byt → Byt → Option Byt) (L : List Byt)
def evT : Shp → Option Byt
  | .leaf i => E (L.getD i [])
  | .node a b => (evT a).bind fun x => (evT b).bind fun y => P x y
def Bad (t : Shp) : Prop := evT E P L t = none
def bads (ts : List (Nat × Shp)) : Prop := ∃ q ∈ ts, Bad E P L q.2
variable {E P L}
theorem bad_l {a b : Shp} (h : Bad E P L a) : Bad E P L (.node a b) := by
  show (evT E P L a).bind _ = none
  rw [show evT E P L a = none from h]
  rfl
theorem bad_r {a b : Shp} (h : Bad E P L b) : Bad E P L (.node a b) := by
  show (evT E P L a).bind (fun x => (evT E P L b).bind fun y => P x y) = none
  rw [show evT E P L b = none from h]
  cases evT E P L a <;> rfl
theorem mrg_bad : ∀ (ts : List (Nat × Shp)) (p : Nat × Shp), bads E P L (p :: ts) → bads E P L (mrg ts p)
  | [], _, h => h
  | q :: qs, p, h => by
    rw [mrg]
    split
    · refine mrg_bad qs _ ?_
      obtain ⟨r, hr, hb⟩ := h
      rcases List.mem_cons.1 hr with rfl | hr
      · exact ⟨_, List.mem_cons_self, bad_r hb⟩
      · rcases List.mem_cons.1 hr with rfl | hr
        · exact ⟨_, List.mem_cons_self, bad_l hb⟩
        · exact ⟨r, List.mem_cons_of_mem _ hr, hb⟩
    · exact h
theorem pkT_bad {j : Nat} (h : bads E P L (pkT j)) : ∀ k, bads E P L (pkT (j + k))
  | 0 => h
  | k + 1 => by
    obtain ⟨q, hq, hb⟩ := pkT_bad h k
    exact mrg_bad _ _ ⟨q, List.mem_cons_of_mem _ hq, hb⟩
theorem bag_bad : ∀ (ts : List (Nat × Shp)) (d : Shp), (Bad E P L d ∨ bads E P L ts) → Bad E P L (bag ts d)
  | [], d, h => by
    rcases h with h | ⟨_, h, _⟩
    · exact h
    · cases h
  | q :: qs, d, h => by
    refine bag_bad qs _ ?_
    rcases h with h | ⟨r, hr, hb⟩
    · exact .inl (bad_r h)
    · rcases List.mem_cons.1 hr with rfl | hr
      · exact .inl (bad_l hb)
      · exact .inr ⟨r, hr, hb⟩
theorem bagT_bad {ts : List (Nat × Shp)} (h : bads E P L ts) : Bad E P L (bagT ts) := by
  cases ts with
  | nil => obtain ⟨_, h, _⟩ := h; cases h
  | cons q qs =>
    refine bag_bad qs q.2 ?_
    obtain ⟨r, hr, hb⟩ := h
    rcases List.mem_cons.1 hr with rfl | hr
    · exact .inl hb
    · exact .inr ⟨r, hr, hb⟩
variable (E P)
/-- the root, from the top down -/
def rtO : Nat → List Byt → Option Byt
  | 0, _ => none
  | f + 1, l => if l.length ≤ 1 then E (l.getD 0 []) else (rtO f (l.take (hf l.length))).bind fun x => (rtO f (l.drop (hf l.length))).bind fun y => P x y
theorem rtO_ev : ∀ (f n s : Nat) (L : List Byt), 1 ≤ n → n ≤ f → s + n ≤ L.length → rtO E P f ((L.drop s).take n) = evT E P L (tdT f n s)
  | 0, n, s, L, h1, h2, _ => by omega
  | f + 1, n, s, L, h1, h2, h3 => by
    have hl : ((L.drop s).take n).length = n := by rw [List.length_take, List.length_drop]; omega
    rw [rtO, tdT, hl]
    by_cases hn : n ≤ 1
    · have : n = 1 := by omega
      subst this
      rw [if_pos hn, if_pos hn]
      show E _ = E _
      congr 1
      simp [List.getD, List.getElem?_drop]
    · have hh := hf_lt (n := n) (by omega)
      rw [if_neg hn, if_neg hn]
      have e1 : ((L.drop s).take n).take (hf n) = (L.drop s).take (hf n) := by
        rw [List.take_take, Nat.min_eq_left (by omega)]
      have e2 : ((L.drop s).take n).drop (hf n) = (L.drop (s + hf n)).take (n - hf n) := by
        rw [List.drop_take, List.drop_drop]
      rw [e1, e2, rtO_ev f (hf n) s L hh.1 (by omega) (by omega), rtO_ev f (n - hf n) (s + hf n) L (by omega) (by omega) (by omega)]
      rfl
theorem rtO_bag (L : List Byt) (h1 : 1 ≤ L.length) (h2 : L.length ≤ 64) : rtO E P 64 L = evT E P L (bagT (pkT L.length)) := by
  have h := rtO_ev E P 64 L.length 0 L h1 h2 (by omega)
  rw [List.drop_zero, List.take_length] at h
  rw [h, tdT_bag h1 h2]
end
end Go.Proofs.YtjpmghphkkhcjaaDoor
