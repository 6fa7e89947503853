/- SHA-256 as the program has it: bytes are fed into a stream. No condition. -/
import Derived.Test.YtjpmghphkkhcjaaDoorTSh4
namespace Go.Proofs.YtjpmghphkkhcjaaDoor
open Go Go.RowKit Go.Proofs.YtjpmghphkkhcjaaDoor.Ab

def stE (H : H8) (l : List UInt8) (n m : Int) : List E := hE H ++ (bE l ++ [eI n, eI m])
section
variable (H : H8) (l : List UInt8) (hl : l.length = 64) (n m : Int)
include hl
theorem st_len : (stE H l n m).length = 74 := by simp [stE, hE, bE, H8.l, hl]
theorem st_N : (stE H l n m).getD (0 + 72) E.dflt = eI n := by
  have h1 : (hE H).length = 8 := rfl
  have h2 : (bE l).length = 64 := by simp [bE, hl]
  unfold stE
  rw [List.getD_eq_getElem?_getD, List.getElem?_append_right (by omega), List.getElem?_append_right (by omega), h1, h2]
  rfl
theorem st_L : (stE H l n m).getD (0 + 73) E.dflt = eI m := by
  have h1 : (hE H).length = 8 := rfl
  have h2 : (bE l).length = 64 := by simp [bE, hl]
  unfold stE
  rw [List.getD_eq_getElem?_getD, List.getElem?_append_right (by omega), List.getElem?_append_right (by omega), h1, h2]
  rfl
theorem st_held {i : Nat} (h : i < 64) : (stE H l n m).getD (0 + 8 + i * 1) E.dflt = eB (l.getD i 0) := by
  have h1 : (hE H).length = 8 := rfl
  have h2 : (bE l).length = 64 := by simp [bE, hl]
  unfold stE
  rw [List.getD_eq_getElem?_getD, List.getElem?_append_right (by omega), List.getElem?_append_left (by omega), h1]
  have e : 0 + 8 + i * 1 - 8 = i := by omega
  rw [e]
  simp [bE, hl, h]
theorem st_setN (x : Int) : (stE H l n m).take (0 + 72) ++ [eI x] ++ (stE H l n m).drop (0 + 72 + 1) = stE H l x m := by
  have h1 : (hE H).length = 8 := rfl
  have h2 : (bE l).length = 64 := by simp [bE, hl]
  have e : stE H l n m = (hE H ++ bE l) ++ [eI n, eI m] := by simp [stE]
  rw [e, List.take_left' (by rw [List.length_append, h1, h2]), List.drop_append, List.drop_of_length_le (by rw [List.length_append, h1, h2]; omega)]
  rw [List.length_append, h1, h2]
  simp [stE]
theorem st_setL (x : Int) : (stE H l n m).take (0 + 73) ++ [eI x] ++ (stE H l n m).drop (0 + 73 + 1) = stE H l n x := by
  have h1 : (hE H).length = 8 := rfl
  have h2 : (bE l).length = 64 := by simp [bE, hl]
  have e : stE H l n m = (hE H ++ (bE l ++ [eI n])) ++ [eI m] := by simp [stE]
  rw [e, List.take_left' (by simp [h1, h2]), List.drop_of_length_le (by simp [h1, h2])]
  simp [stE]
theorem st_setHeld {i : Nat} (h : i < 64) (c : UInt8) : (stE H l n m).take (0 + 8 + i * 1) ++ [eB c] ++ (stE H l n m).drop (0 + 8 + i * 1 + 1) = stE H (l.set i c) n m := by
  have h1 : (hE H).length = 8 := rfl
  have h2 : (bE l).length = 64 := by simp [bE, hl]
  have e : bE (l.set i c) = (bE l).take i ++ ([eB c] ++ (bE l).drop (i + 1)) := by
    unfold bE
    rw [List.map_set, List.set_eq_take_append_cons_drop, if_pos (by simp [hl, h])]
    simp
  unfold stE
  rw [e, Nat.mul_one, List.take_append, List.drop_append, h1, List.take_of_length_le (by omega), List.drop_of_length_le (by omega)]
  have e1 : 0 + 8 + i - 8 = i := by omega
  have e2 : 0 + 8 + i + 1 - 8 = i + 1 := by omega
  rw [e1, e2, List.take_append, List.drop_append, h2]
  have e3 : i - 64 = 0 := by omega
  have e4 : i + 1 - 64 = 0 := by omega
  rw [e3, e4]
  simp
theorem st_H : List.take 8 (List.drop (0 + 0) (stE H l n m)) = hE H := by
  have _ := hl
  unfold stE
  rw [Nat.add_zero, List.drop_zero, List.take_left' (l₁ := hE H) (show (hE H).length = 8 from rfl)]
theorem st_Held : List.take 64 (List.drop (0 + 8) (stE H l n m)) = bE l := by
  have h2 : (bE l).length = 64 := by simp [bE, hl]
  unfold stE
  rw [Nat.zero_add, List.drop_left' (l₁ := hE H) (show (hE H).length = 8 from rfl), List.take_left' h2]
theorem st_setH (H' : H8) : (stE H l n m).take (0 + 0) ++ hE H' ++ (stE H l n m).drop (0 + 0 + 8) = stE H' l n m := by
  have _ := hl
  unfold stE
  rw [show (0 + 0 + 8) = 8 from rfl, List.drop_left' (l₁ := hE H) (show (hE H).length = 8 from rfl)]
  rfl
theorem st_setAll (l' : List UInt8) : (stE H l n m).take (0 + 8) ++ bE l' ++ (stE H l n m).drop (0 + 8 + 64) = stE H l' n m := by
  have h2 : (bE l).length = 64 := by simp [bE, hl]
  have e : stE H l n m = (hE H ++ bE l) ++ [eI n, eI m] := by simp [stE]
  rw [e, List.drop_left' (l₁ := hE H ++ bE l) (by rw [List.length_append, h2]; rfl), List.append_assoc (hE H), Nat.zero_add, List.take_left' (l₁ := hE H) (show (hE H).length = 8 from rfl)]
  simp [stE]
theorem st_okN : 0 + 72 < (Cs.es (stE H l n m)).len ∧ D0.isA (.int .i64) ((Cs.es (stE H l n m)).at (0 + 72)) := by
  refine ⟨?_, ?_⟩
  · show 0 + 72 < (stE H l n m).length
    rw [st_len H l hl]
    decide
  · show E.as _ ((stE H l n m).getD (0 + 72) E.dflt) = (stE H l n m).getD (0 + 72) E.dflt
    rw [st_N H l hl]
    rfl
theorem st_okL : 0 + 73 < (Cs.es (stE H l n m)).len ∧ D0.isA (.int .i64) ((Cs.es (stE H l n m)).at (0 + 73)) := by
  refine ⟨?_, ?_⟩
  · show 0 + 73 < (stE H l n m).length
    rw [st_len H l hl]
    decide
  · show E.as _ ((stE H l n m).getD (0 + 73) E.dflt) = (stE H l n m).getD (0 + 73) E.dflt
    rw [st_L H l hl]
    rfl
theorem st_okHeld {i : Nat} (h : i < 64) : 0 + 8 + i * 1 < (Cs.es (stE H l n m)).len ∧ D0.isA (.int .u8) ((Cs.es (stE H l n m)).at (0 + 8 + i * 1)) := by
  refine ⟨?_, ?_⟩
  · show 0 + 8 + i * 1 < (stE H l n m).length
    rw [st_len H l hl]
    omega
  · show E.as _ ((stE H l n m).getD (0 + 8 + i * 1) E.dflt) = (stE H l n m).getD (0 + 8 + i * 1) E.dflt
    rw [st_held H l hl n m h]
    rfl
theorem st_fit {k : Nat} (h : k ≤ 74) : k ≤ (Cs.es (stE H l n m)).len := by
  show k ≤ (stE H l n m).length
  rw [st_len H l hl]
  exact h
end
def padB (l : List UInt8) : List UInt8 := l ++ List.replicate (64 - l.length) 0
theorem padB_len {l : List UInt8} (h : l.length ≤ 64) : (padB l).length = 64 := by
  simp [padB]
  omega
theorem padB_set {l : List UInt8} (h : l.length < 64) (x : UInt8) : (padB l).set l.length x = padB (l ++ [x]) := by
  unfold padB
  rw [List.set_append_right _ _ (Nat.le_refl _), Nat.sub_self]
  have : 64 - l.length = (64 - (l ++ [x]).length) + 1 := by simp; omega
  rw [this, List.replicate_succ]
  simp
theorem padB_full {l : List UInt8} (h : l.length = 64) : padB l = l := by simp [padB, h]
def smE (s : Sm) : List E := stE s.H (padB s.held) s.held.length s.len
def feedF (s : Sm) (b : List UInt8) : Sm := (⟨s.H, s.held, s.len + b.length⟩ : Sm).fold b
theorem fold_held (s : Sm) (l : List UInt8) (hs : s.held.length < 64) : (s.fold l).held.length < 64 := (fold_law s l hs).2.2
end Go.Proofs.YtjpmghphkkhcjaaDoor
