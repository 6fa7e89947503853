/- What stands in the text of a token. No condition. -/
import Derived.Test.YthnadkafegmacaaDoorTYxD
import Derived.Test.YthnadkafegmacaaDoorTLexA
namespace Go.Proofs.YthnadkafegmacaaDoor
open Go Go.RowKit Go.Proofs.YthnadkafegmacaaDoor.Ab
set_option linter.unusedSimpArgs false
set_option linter.unusedVariables false

/-- n digits of u -/
def pad : Nat → Nat → Byt
  | 0, _ => []
  | n + 1, u => pad n (u / 16) ++ [hd (u % 16)]
theorem pad_len : ∀ n u, (pad n u).length = n
  | 0, _ => rfl
  | n + 1, u => by rw [pad, List.length_append, pad_len n]; rfl
theorem pad_zero : ∀ n, pad n 0 = Lib.repeatL [48] n
  | 0 => rfl
  | n + 1 => by
    rw [pad, show (0 : Nat) / 16 = 0 from rfl, pad_zero n, Lib.repeatL_add]
    rfl
theorem pad_hx : ∀ (n u : Nat), u < 16 ^ (n + 1) → (hx u).length ≤ n + 1 ∧ Lib.repeatL [48] (n + 1 - (hx u).length) ++ hx u = pad (n + 1) u := by
  intro n
  induction n with
  | zero =>
    intro u h
    rw [hx_one (by omega)]
    refine ⟨Nat.le_refl _, ?_⟩
    show [] ++ [hd u] = [] ++ [hd (u % 16)]
    rw [Nat.mod_eq_of_lt (by omega)]
  | succ n ih =>
    intro u h
    by_cases h16 : u < 16
    · rw [hx_one h16, pad, Nat.div_eq_of_lt h16, Nat.mod_eq_of_lt h16, pad_zero]
      exact ⟨Nat.succ_pos _, rfl⟩
    · rw [Nat.pow_succ] at h
      obtain ⟨h1, h2⟩ := ih (u / 16) (by omega)
      rw [hx_big h16, pad, ← h2, List.length_append]
      refine ⟨Nat.add_le_add_right h1 1, ?_⟩
      rw [List.append_assoc, show n + 1 + 1 - ((hx (u / 16)).length + [hd (u % 16)].length) = n + 1 - (hx (u / 16)).length by show n + 1 + 1 - ((hx (u / 16)).length + 1) = _; omega]
theorem hx_len (u : BitVec 64) : (hx u.toNat).length ≤ 16 := (pad_hx 15 u.toNat u.isLt).1
theorem hx_pad (u : BitVec 64) : Lib.repeatL [48] (16 - (hx u.toNat).length) ++ hx u.toNat = pad 16 u.toNat := (pad_hx 15 u.toNat u.isLt).2
/-- each apostrophe twice -/
def dbl : Byt → Byt
  | [] => []
  | c :: r => if c = 39 then 39 :: 39 :: dbl r else c :: dbl r
theorem dbl_len : ∀ s : Byt, (dbl s).length ≤ 2 * s.length
  | [] => Nat.le_refl _
  | c :: r => by
    have := dbl_len r
    rw [dbl]
    split <;> simp only [List.length_cons] <;> omega
theorem dbl_app : ∀ a b : Byt, dbl (a ++ b) = dbl a ++ dbl b
  | [], _ => rfl
  | c :: r, b => by
    rw [List.cons_append, dbl, dbl, dbl_app r b]
    split <;> rfl
theorem ix_hit (r : Byt) : Lib.index (39 :: r) [39] = 0 := by
  rw [Lib.index, if_pos (by simp)]
theorem ix_miss {c : UInt8} (h : c ≠ 39) (r : Byt) : Lib.index (c :: r) [39] = if Lib.index r [39] = -1 then -1 else Lib.index r [39] + 1 := by
  rw [Lib.index, if_neg (by simp [Ne.symm h])]
  by_cases h2 : Lib.index r [39] = -1
  · simp [h2]
  · simp [h2]
theorem repK : ∀ (s : Byt) (k : Nat), s.count 39 ≤ k → Lib.replaceK [39] [39, 39] k s = dbl s
  | [], 0, _ => rfl
  | [], k + 1, _ => by rw [Lib.replaceK, if_pos (by decide)]; rfl
  | c :: r, k, h => by
    by_cases hc : c = 39
    · subst hc
      rw [List.count_cons_self] at h
      cases k with
      | zero => omega
      | succ k =>
        rw [Lib.replaceK, if_neg (by rw [ix_hit]; decide), ix_hit, dbl, if_pos rfl]
        show [] ++ [39, 39] ++ Lib.replaceK [39] [39, 39] k r = 39 :: 39 :: dbl r
        rw [repK r k (by omega)]
        rfl
    · rw [List.count_cons_of_ne hc] at h
      have ih := repK r k h
      rw [dbl, if_neg hc, ← ih]
      cases k with
      | zero => rfl
      | succ k =>
        rw [Lib.replaceK, Lib.replaceK, ix_miss hc]
        by_cases h2 : Lib.index r [39] = -1
        · simp [h2]
        · have hg := Lib.index_ge r [39]
          have e1 : ¬ (Lib.index r [39] == -1) = true := by simpa using h2
          have e2 : ¬ (Lib.index r [39] + 1 == -1) = true := by
            rw [beq_iff_eq]
            omega
          rw [if_neg h2, if_neg e2, if_neg e1, show (Lib.index r [39] + 1).toNat = (Lib.index r [39]).toNat + 1 by omega]
          rw [List.take_succ_cons, show (Lib.index r [39]).toNat + 1 + [(39 : UInt8)].length = ((Lib.index r [39]).toNat + [(39 : UInt8)].length) + 1 from rfl, List.drop_succ_cons]
          rfl
theorem cnt39 : ∀ (s : Byt) (f : Nat), s.length < f → Lib.countFrom [39] f s = s.count 39
  | s, 0, h => absurd h (Nat.not_lt_zero _)
  | [], f + 1, _ => by rw [Lib.countFrom, if_pos (by decide)]; rfl
  | c :: r, f + 1, h => by
    simp only [List.length_cons] at h
    by_cases hc : c = 39
    · subst hc
      rw [Lib.countFrom, if_neg (by rw [ix_hit]; decide), ix_hit, List.count_cons_self]
      show 1 + Lib.countFrom [39] f r = _
      rw [cnt39 r f (by omega), Nat.add_comm]
    · rw [List.count_cons_of_ne hc, ← cnt39 r (f + 1) (by omega), Lib.countFrom, Lib.countFrom, ix_miss hc]
      by_cases h2 : Lib.index r [39] = -1
      · simp [h2]
      · have hg := Lib.index_ge r [39]
        have e1 : ¬ (Lib.index r [39] == -1) = true := by simpa using h2
        have e2 : ¬ (Lib.index r [39] + 1 == -1) = true := by
          rw [beq_iff_eq]
          omega
        rw [if_neg h2, if_neg e2, if_neg e1, show (Lib.index r [39] + 1).toNat = (Lib.index r [39]).toNat + 1 by omega]
        rfl
theorem repAll (s : Byt) : Lib.replaceAll s [39] [39, 39] = dbl s := by
  unfold Lib.replaceAll Lib.replace
  rw [if_neg (by decide)]
  refine repK s _ ?_
  unfold Lib.replaceNum Lib.count
  rw [if_pos (.inl (by decide)), cnt39 s _ (Nat.lt_succ_self _)]
  exact Nat.le_refl _
/-- the text of a token -/
def txF (t : Tok) : Byt := if t.k = 3 then Lib.decDigits t.i.toNat else if t.k = 4 then 39 :: (dbl t.t ++ [39]) else if t.k = 5 then 35 :: pad 16 t.b.toNat else t.t
end Go.Proofs.YthnadkafegmacaaDoor
