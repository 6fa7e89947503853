/- kinds.Of: its joints. No condition. -/
import Derived.Test.YtphaholcndhonaaDoorTExA
namespace Go.Proofs.YtphaholcndhonaaDoor
open Go Go.RowKit Go.Proofs.YtphaholcndhonaaDoor.Ab
set_option linter.unusedSimpArgs false
set_option linter.unusedVariables false

/-- a kind, and whether null is among the values -/
abbrev Srt := Int × Bool
abbrev KR := Int × Bool × Int
def eSo (s : Srt) : List E := [eI s.1, eBl s.2]
def s0 : Srt := (0, false)
/-- a sort and an error number -/
def rSo (r : KR) : D := .tup [(true, .es [eI r.1, eBl r.2.1]), (false, .es [eI r.2.2])]
def eS2 (l : List Srt) : List E := [eI (l.getD 0 s0).1, eBl (l.getD 0 s0).2, eI (l.getD 1 s0).1, eBl (l.getD 1 s0).2]
theorem eSo0 (s : Srt) : ((eSo s).getD (0 + 0) E.dflt).int = s.1 := rfl
theorem eSo1 (s : Srt) : ((eSo s).getD (0 + 1) E.dflt).bool = s.2 := rfl
def ftB (s : Srt) (k : Int) : Bool := bif decide (s.1 = k) then true else decide (s.1 = 0)
def wiF (a b : Srt) : Srt := (if a.1 = 0 then b.1 else a.1, a.2 || b.2)
def akF (k g : Int) : Bool → List Srt → KR
  | u, [] => (g, u, 0)
  | u, x :: r => if ftB x k = false then (0, false, 2) else akF k g (u || x.2) r
theorem s2Chunks (l : List Srt) (n : Nat) (h : l.length = n) (h2 : n ≤ 2) : chunksE 2 n (eS2 l) = l.map eSo := by
  match l, h with
  | [], h => subst h; rfl
  | [a], h => subst h; rfl
  | [a, b], h => subst h; rfl
  | a :: b :: c :: r, h => rw [← h] at h2; exact absurd h2 (by simp)
theorem sosGet (l : List Srt) (i : Nat) (h : i < l.length) : (l.map eSo).getD i [] = eSo (l.getD i s0) := by
  rw [List.getD_eq_getElem?_getD, List.getElem?_map, List.getElem?_eq_getElem h, List.getD_eq_getElem?_getD, List.getElem?_eq_getElem h]
  rfl
theorem soBox (s : Srt) : List.take 0 (List.map E.v [Value.int IntKind.i64 0, Value.bool false]) ++ List.take 2 (List.drop 0 (eSo s)) ++ List.drop (0 + 2) (List.map E.v [Value.int IntKind.i64 0, Value.bool false]) = eSo s := rfl
def twF (op : Int) (a b : Srt) : KR := if (bif !ftB a (wiF a b).1 then true else !ftB b (wiF a b).1) = true then (0, false, 2) else if op = 20 then ((wiF a b).1, (bif a.2 then b.2 else false), 0) else (1, (wiF a b).2, 0)
def joF (op : Int) (l : List Srt) : KR :=
  if op = 3 ∨ op = 5 ∨ op = 6 ∨ op = 7 ∨ op = 8 then akF 2 2 false l else if op = 4 ∨ op = 15 ∨ op = 16 then akF 1 1 false l else if op = 18 then akF 4 2 false l else if op = 19 then akF 4 4 false l else if op = 17 then (1, false, 0)
  else twF op (l.getD 0 s0) (l.getD 1 s0)
end Go.Proofs.YtphaholcndhonaaDoor
namespace Go.Proofs.YtphaholcndhonaaDoor
open Go Go.RowKit Go.Proofs.YtphaholcndhonaaDoor.Ab
set_option linter.unusedSimpArgs false
set_option linter.unusedVariables false

def fndF (l : List Colm) (s : Byt) : KR :=
  match l.find? (fun c => decide (c.n = s)) with
  | some c => (c.k, c.u, 0)
  | none => (0, false, 5)
mutual
/-- the kind of an expression -/
def kdF (l : List Colm) : Ex → KR
  | .mk op v n ar => if op = 1 then (v.k, decide (v.k = 0), 0) else if op = 2 then fndF l n else if (kdA l [] ar).1 ≠ 0 then (0, false, (kdA l [] ar).1) else joF op (kdA l [] ar).2
def kdA (l : List Colm) : List Srt → List Ex → Int × List Srt
  | ss, [] => (0, ss)
  | ss, a :: r => if (kdF l a).2.2 ≠ 0 then ((kdF l a).2.2, []) else kdA l (ss ++ [((kdF l a).1, (kdF l a).2.1)]) r
end
theorem kdF_eq (l : List Colm) (x : Ex) : kdF l x = if x.op = 1 then (x.v.k, decide (x.v.k = 0), 0) else if x.op = 2 then fndF l x.n else if (kdA l [] x.ar).1 ≠ 0 then (0, false, (kdA l [] x.ar).1) else joF x.op (kdA l [] x.ar).2 := by
  cases x; rw [kdF]; rfl
theorem eCol0' (c : Colm) : ((eCol c).getD (0 + 0) E.dflt).str = strB c.n := rfl
theorem s2Put (ss : List Srt) (i : Nat) (h : ss.length = i) (h2 : i < 2) (x : Srt) : List.take (0 + i * 2) (eS2 ss) ++ eSo x ++ List.drop (0 + i * 2 + 2) (eS2 ss) = eS2 (ss ++ [x]) := by
  match ss, h with
  | [], h => subst h; rfl
  | [a], h => subst h; rfl
  | a :: b :: r, h => rw [← h] at h2; exact absurd h2 (by simp)
theorem ndL_mem : ∀ {l : List Ex}, ndL l = 0 → ∀ a ∈ l, ndF a = 0
  | [], _ => fun a ha => absurd ha List.not_mem_nil
  | b :: r, h => fun a ha => by
    rw [ndL] at h
    by_cases hb : ndF b = 0
    · rw [if_neg (not_not_intro hb)] at h
      rcases List.mem_cons.1 ha with rfl | ha
      · exact hb
      · exact ndL_mem h a ha
    · rw [if_pos hb] at h
      exact absurd h hb
theorem ndF_zero {x : Ex} (h : ndF x = 0) : nodeF x = 0 ∧ ∀ a ∈ x.ar, ndF a = 0 := by
  rw [ndF_eq] at h
  by_cases hb : nodeF x = 0
  · rw [if_neg (not_not_intro hb)] at h
    exact ⟨hb, ndL_mem h⟩
  · rw [if_pos hb] at h
    exact absurd h hb
theorem ndF_kid {x : Ex} (h : ndF x = 0) : ∀ a ∈ x.ar, ndF a = 0 := (ndF_zero h).2
theorem nodeF_ops {x : Ex} (h : nodeF x = 0) : 1 ≤ x.op ∧ x.op ≤ 20 ∧ (x.ar.length : Int) = wantF x.op := by
  unfold nodeF at h
  by_cases h1 : x.op < 1 ∨ 20 < x.op
  · rw [if_pos h1] at h; exact absurd h (by decide)
  · rw [if_neg h1] at h
    by_cases h2 : (x.ar.length : Int) ≠ wantF x.op
    · rw [if_pos h2] at h; exact absurd h (by decide)
    · exact ⟨by omega, by omega, Classical.not_not.1 h2⟩
theorem ndF_ar {x : Ex} (h : ndF x = 0) : x.op = 1 ∨ x.op = 2 ∨ x.ar.length ≤ 2 := by
  obtain ⟨_, _, h⟩ := nodeF_ops (ndF_zero h).1
  unfold wantF at h
  split at h
  · omega
  · split at h <;> omega
def rK (r : KR) : D := .tup [(false, .es [eI r.1]), (false, .es [eBl r.2.1]), (false, .es [eI r.2.2])]
theorem akF_bad (k g : Int) : ∀ (l : List Srt) (u : Bool), (akF k g u l).2.2 ≠ 0 → akF k g u l = (0, false, (akF k g u l).2.2)
  | [], u, h => absurd rfl h
  | x :: r, u, h => by
    rw [akF] at h ⊢
    by_cases hb : ftB x k = false
    · rw [if_pos hb]
    · rw [if_neg hb] at h ⊢
      exact akF_bad k g r _ h
theorem kdF_bad (l : List Colm) (x : Ex) (h : (kdF l x).2.2 ≠ 0) : kdF l x = (0, false, (kdF l x).2.2) := by
  rw [kdF_eq] at h ⊢
  split at h
  · exact absurd rfl h
  · rename_i n1
    rw [if_neg n1]
    split at h
    · rename_i n2
      rw [if_pos n2]
      unfold fndF at h ⊢
      cases hf : l.find? (fun c => decide (c.n = x.n)) with
      | some c => rw [hf] at h; exact absurd rfl h
      | none => rfl
    · rename_i n2
      rw [if_neg n2]
      split at h
      · rename_i n3
        rw [if_pos n3]
      · rename_i n3
        rw [if_neg n3]
        unfold joF at h ⊢
        split at h
        · rename_i h1; rw [if_pos h1]; exact akF_bad _ _ _ _ h
        rename_i h1; rw [if_neg h1]
        split at h
        · rename_i h1; rw [if_pos h1]; exact akF_bad _ _ _ _ h
        rename_i h1; rw [if_neg h1]
        split at h
        · rename_i h1; rw [if_pos h1]; exact akF_bad _ _ _ _ h
        rename_i h1; rw [if_neg h1]
        split at h
        · rename_i h1; rw [if_pos h1]; exact akF_bad _ _ _ _ h
        rename_i h1; rw [if_neg h1]
        split at h
        · exact absurd rfl h
        rename_i h1; rw [if_neg h1]
        unfold twF at h ⊢
        split at h
        · rename_i h1; rw [if_pos h1]
        · split at h <;> exact absurd rfl h
theorem exF_nd {x : Ex} (h : exF x = 0) : ndF x = 0 := by
  unfold exF at h
  split at h
  · exact h
  · exact absurd h (by decide)
def koF (x : Ex) (l : List Colm) : KR := if exF x ≠ 0 then (0, false, exF x) else if colsF l ≠ 0 then (0, false, colsF l) else kdF l x
end Go.Proofs.YtphaholcndhonaaDoor
namespace Go.Proofs.YtphaholcndhonaaDoor
open Go Go.RowKit Go.Proofs.YtphaholcndhonaaDoor.Ab
set_option linter.unusedSimpArgs false
set_option linter.unusedVariables false

def afF (op : Int) : Int × Int := if op = 3 ∨ op = 5 ∨ op = 6 ∨ op = 7 ∨ op = 8 then (2, 2) else if op = 4 ∨ op = 15 ∨ op = 16 then (1, 1) else if op = 18 then (4, 2) else if op = 19 then (4, 4) else if op = 20 then (0, 0) else (0, 1)
abbrev KS := Bool × Bool × Int × Bool
def asK (k x : Int) : Int := if k = 0 then x else k
def stF (op : Int) (z : KS) (x : Srt) : KS :=
  if op = 17 ∨ x.1 = 0 then ((bif z.1 then true else x.2), (bif z.2.1 then x.2 else false), z.2.2.1, z.2.2.2)
  else ((bif z.1 then true else x.2), (bif z.2.1 then x.2 else false), asK z.2.2.1 x.1, (bif z.2.2.2 then true else !decide (x.1 = asK z.2.2.1 x.1)))
def raF (op g : Int) (z : KS) : KR := if z.2.2.2 = true then (0, false, 2) else if op = 17 then (1, false, 0) else if op = 20 then (z.2.2.1, z.2.1, 0) else (g, z.1, 0)
theorem ra_asks1 (op k g : Int) (hop : op ≠ 17 ∧ op ≠ 20) (hk : k ≠ 0) (a : Srt) : raF op g ([a].foldl (stF op) (false, true, k, false)) = akF k g false [a] := by
  obtain ⟨h17, h20⟩ := hop
  obtain ⟨x, u⟩ := a
  simp only [List.foldl_cons, List.foldl_nil, akF, ftB, stF, raF, asK, if_neg hk]
  by_cases h1 : x = 0
  · subst h1; simp [h17, h20, hk, Ne.symm hk]
  · by_cases h2 : x = k
    · subst h2; simp [h17, h20, h1]
    · simp [h17, h20, h1, h2]
theorem ra_asks2 (op k g : Int) (hop : op ≠ 17 ∧ op ≠ 20) (hk : k ≠ 0) (a b : Srt) : raF op g ([a, b].foldl (stF op) (false, true, k, false)) = akF k g false [a, b] := by
  obtain ⟨h17, h20⟩ := hop
  obtain ⟨x, u⟩ := a
  obtain ⟨y, v⟩ := b
  simp only [List.foldl_cons, List.foldl_nil, akF, ftB, stF, raF, asK, if_neg hk]
  by_cases h1 : x = 0 <;> by_cases h2 : x = k <;> by_cases h3 : y = 0 <;> by_cases h4 : y = k <;> simp [h17, h20, hk, h1, h2, h3, h4, Ne.symm hk] <;> first | omega | (cases u <;> cases v <;> rfl) | skip
theorem ra_17 (a : Srt) : raF 17 1 ([a].foldl (stF 17) (false, true, 0, false)) = (1, false, 0) := by
  simp [stF, raF]
theorem ra_two (op g : Int) (h : op ≠ 17) (hg : op ≠ 20 → g = 1) (a b : Srt) : raF op g ([a, b].foldl (stF op) (false, true, 0, false)) = twF op a b := by
  obtain ⟨x, u⟩ := a
  obtain ⟨y, v⟩ := b
  simp only [List.foldl_cons, List.foldl_nil, twF, wiF, ftB, stF, raF, asK]
  by_cases h1 : x = 0 <;> by_cases h3 : y = 0 <;> by_cases h4 : y = x <;> by_cases h20 : op = 20 <;> simp [h, h1, h3, h4, h20, hg] <;> first | omega | (cases u <;> cases v <;> simp [hg, h20]) | skip
theorem raEq (op : Int) (h1 : 3 ≤ op) (h2 : op ≤ 20) (ss : List Srt) (hl : (ss.length : Int) = wantF op) : raF op (afF op).2 (ss.foldl (stF op) (false, true, (afF op).1, false)) = joF op ss := by
  unfold wantF at hl
  rw [if_neg (by omega)] at hl
  unfold afF joF
  by_cases g1 : op = 3 ∨ op = 5 ∨ op = 6 ∨ op = 7 ∨ op = 8
  · rw [if_pos g1, if_pos g1]
    match ss, hl with
    | [], hl => exact absurd hl (by split <;> decide)
    | [a], _ => exact ra_asks1 op 2 2 (by omega) (by decide) a
    | [a, b], _ => exact ra_asks2 op 2 2 (by omega) (by decide) a b
    | a :: b :: c :: r, hl => exact absurd hl (by simp only [List.length_cons]; split <;> omega)
  rw [if_neg g1, if_neg g1]
  by_cases g2 : op = 4 ∨ op = 15 ∨ op = 16
  · rw [if_pos g2, if_pos g2]
    match ss, hl with
    | [], hl => exact absurd hl (by split <;> decide)
    | [a], _ => exact ra_asks1 op 1 1 (by omega) (by decide) a
    | [a, b], _ => exact ra_asks2 op 1 1 (by omega) (by decide) a b
    | a :: b :: c :: r, hl => exact absurd hl (by simp only [List.length_cons]; split <;> omega)
  rw [if_neg g2, if_neg g2]
  by_cases g3 : op = 18
  · rw [if_pos g3, if_pos g3]
    match ss, hl with
    | [], hl => exact absurd hl (by split <;> decide)
    | [a], _ => exact ra_asks1 op 4 2 (by omega) (by decide) a
    | [a, b], _ => exact ra_asks2 op 4 2 (by omega) (by decide) a b
    | a :: b :: c :: r, hl => exact absurd hl (by simp only [List.length_cons]; split <;> omega)
  rw [if_neg g3, if_neg g3]
  by_cases g4 : op = 19
  · rw [if_pos g4, if_pos g4]
    match ss, hl with
    | [], hl => exact absurd hl (by split <;> decide)
    | [a], _ => exact ra_asks1 op 4 4 (by omega) (by decide) a
    | [a, b], _ => exact ra_asks2 op 4 4 (by omega) (by decide) a b
    | a :: b :: c :: r, hl => exact absurd hl (by simp only [List.length_cons]; split <;> omega)
  rw [if_neg g4, if_neg g4]
  by_cases g5 : op = 17
  · subst g5
    rw [if_neg (by decide), if_pos rfl]
    rw [if_pos (by decide)] at hl
    match ss, hl with
    | [], hl => exact absurd hl (by decide)
    | [a], _ => exact ra_17 a
    | a :: b :: r, hl => exact absurd hl (by simp only [List.length_cons]; omega)
  rw [if_neg g5]
  rw [if_neg (by omega)] at hl
  match ss, hl with
  | [], hl => exact absurd hl (by decide)
  | [a], hl => exact absurd hl (by simp only [List.length_cons, List.length_nil]; decide)
  | [a, b], _ =>
    by_cases g6 : op = 20
    · rw [if_pos g6]; exact ra_two op 0 g5 (fun h => absurd g6 h) a b
    · rw [if_neg g6]; exact ra_two op 1 g5 (fun _ => rfl) a b
  | a :: b :: c :: r, hl => exact absurd hl (by simp only [List.length_cons]; omega)

/-- no name twice -/
def uniq (l : List Colm) : Prop := ∀ i, i < l.length → hasN (l.take i) (l.getD i col0).n = false
theorem clF_uniq : ∀ (r p : List Colm), clF p r = 0 → ∀ i, i < r.length → hasN (p ++ r.take i) (r.getD i col0).n = false
  | [], _, _ => fun i hi => absurd hi (Nat.not_lt_zero _)
  | c :: r, p, h => by
    rw [clF] at h
    split at h
    · exact absurd h (by decide)
    · split at h
      · exact absurd h (by decide)
      · split at h
        · exact absurd h (by decide)
        · rename_i h3
          intro i hi
          cases i with
          | zero => rw [List.take_zero, List.append_nil]; exact Bool.eq_false_iff.2 h3
          | succ i =>
            have := clF_uniq r (p ++ [c]) h i (by simpa using hi)
            rw [List.append_assoc] at this
            exact this
theorem colsF_uniq {l : List Colm} (h : colsF l = 0) : uniq l := by
  unfold colsF at h
  split at h
  · exact absurd h (by decide)
  · exact fun i hi => clF_uniq l [] h i hi
theorem colAt_find (l : List Colm) (s : Byt) (hu : uniq l) : ∀ i, i ≤ l.length → (if colAtN l s i < 0 then (l.take i).find? (fun c => decide (c.n = s)) = none else (l.take i).find? (fun c => decide (c.n = s)) = some (l.getD (colAtN l s i).toNat col0))
  | 0, _ => by rw [colAtN, if_pos (by decide)]; rfl
  | i + 1, h => by
    have ih := colAt_find l s hu i (by omega)
    rw [take_succ (d := col0) (by omega), List.find?_append, colAtN]
    by_cases hc : (l.getD i col0).n = s
    · rw [if_pos hc, if_neg (by omega)]
      have hn := hu i (by omega)
      rw [hc] at hn
      have hnone : (l.take i).find? (fun c => decide (c.n = s)) = none := by
        rw [List.find?_eq_none]
        intro c hcm hcs
        unfold hasN at hn
        rw [List.any_eq_false] at hn
        exact hn c hcm hcs
      rw [hnone, Option.none_or, List.find?_cons, decide_eq_true hc, Int.toNat_natCast]
    · rw [if_neg hc]
      have hl : List.find? (fun c => decide (c.n = s)) [l.getD i col0] = none := by rw [List.find?_cons, decide_eq_false hc]; rfl
      rw [hl, Option.or_none]
      exact ih
theorem fndF_at (l : List Colm) (s : Byt) (hu : uniq l) : fndF l s = if colAt l s < 0 then (0, false, 5) else ((l.getD (colAt l s).toNat col0).k, (l.getD (colAt l s).toNat col0).u, 0) := by
  have h := colAt_find l s hu l.length (Nat.le_refl _)
  rw [List.take_length] at h
  unfold fndF colAt
  split at h
  · rename_i h1; rw [if_pos h1, h]
  · rename_i h1; rw [if_neg h1, h]
end Go.Proofs.YtphaholcndhonaaDoor
namespace Go.Proofs.YtphaholcndhonaaDoor
open Go Go.RowKit Go.Proofs.YtphaholcndhonaaDoor.Ab
set_option linter.unusedSimpArgs false
set_option linter.unusedVariables false

end Go.Proofs.YtphaholcndhonaaDoor
