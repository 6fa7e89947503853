/- The order of floats by their bits. No condition. -/
import Derived.Test.YtcdifgacoleckaaDoorAbE
import Ieee.Arith
namespace Go.Proofs.YtcdifgacoleckaaDoor.Ab
open Go

def rgF (n : Nat) : Nat := n % 9223372036854775808
def ngF (n : Nat) : Bool := n / 9223372036854775808 % 2 == 1
def rkF (n : Nat) : Int := if ngF n = true then -(rgF n : Int) else (rgF n : Int)
def infR : Nat := 9218868437227405312
def bnd : Nat := 4503599627370496
/-- a magnitude's worth, in units of the least -/
def valF (r : Nat) : Nat := if r < bnd then r else (bnd + r % bnd) * 2 ^ (r / bnd - 1)
theorem bnd_pos : 0 < bnd := by decide
theorem valF_mono {r s : Nat} (h : r < s) : valF r < valF s := by
  have hB := bnd_pos
  unfold valF
  by_cases hs : s < bnd
  · rw [if_pos hs, if_pos (by omega)]; exact h
  rw [if_neg hs]
  have h1 : 0 < 2 ^ (s / bnd - 1) := Nat.two_pow_pos _
  by_cases hr : r < bnd
  · rw [if_pos hr]
    have : bnd * 1 ≤ (bnd + s % bnd) * 2 ^ (s / bnd - 1) := Nat.mul_le_mul (by omega) h1
    omega
  rw [if_neg hr]
  have q1 : 1 ≤ r / bnd := (Nat.le_div_iff_mul_le hB).2 (by omega)
  have q2 : r / bnd ≤ s / bnd := Nat.div_le_div_right (by omega)
  have er := Nat.div_add_mod r bnd
  have es := Nat.div_add_mod s bnd
  have lr := Nat.mod_lt r hB
  rcases Nat.lt_or_eq_of_le q2 with q | q
  · have e1 : (bnd + r % bnd) * 2 ^ (r / bnd - 1) < (2 * bnd) * 2 ^ (r / bnd - 1) := Nat.mul_lt_mul_of_pos_right (by omega) (Nat.two_pow_pos _)
    have e2 : (2 * bnd) * 2 ^ (r / bnd - 1) = bnd * 2 ^ (r / bnd) := by
      rw [show r / bnd = (r / bnd - 1) + 1 by omega, Nat.add_sub_cancel, Nat.pow_succ, Nat.mul_comm 2 bnd, Nat.mul_assoc, Nat.mul_comm 2]
    have e3 : bnd * 2 ^ (r / bnd) ≤ (bnd + s % bnd) * 2 ^ (s / bnd - 1) := Nat.mul_le_mul (by omega) (Nat.pow_le_pow_right (by decide) (by omega))
    omega
  · rw [q]
    rw [q] at er
    exact Nat.mul_lt_mul_of_pos_right (by omega) h1
theorem valF_zero : valF 0 = 0 := by unfold valF; rw [if_pos bnd_pos]
theorem valF_lt {r s : Nat} : valF r < valF s ↔ r < s :=
  ⟨fun h => Nat.lt_of_not_le fun hle => by
    rcases Nat.lt_or_eq_of_le hle with q | q
    · have := valF_mono q; omega
    · rw [q] at h; omega, valF_mono⟩
theorem valF_inj {r s : Nat} : valF r = valF s ↔ r = s :=
  ⟨fun h => by
    rcases Nat.lt_trichotomy r s with q | q | q
    · have := valF_mono q; omega
    · exact q
    · have := valF_mono q; omega, fun h => by rw [h]⟩
theorem cmp_congr {x y x' y' : Int} (h1 : x < y ↔ x' < y') (h2 : x = y ↔ x' = y') : compare x y = compare x' y' := by
  show compareOfLessAndEq x y = compareOfLessAndEq x' y'
  unfold compareOfLessAndEq
  by_cases a : x < y
  · rw [if_pos a, if_pos (h1.1 a)]
  · rw [if_neg a, if_neg (fun h => a (h1.2 h))]
    by_cases b : x = y
    · rw [if_pos b, if_pos (h2.1 b)]
    · rw [if_neg b, if_neg (fun h => b (h2.2 h))]
def sgF (s : Bool) (n : Nat) : Int := if s = true then -(n : Int) else (n : Int)
theorem signed_sg (s : Bool) (m k : Nat) : Ieee.signed s m k = sgF s (m * 2 ^ k) := by
  unfold Ieee.signed sgF
  rw [Nat.shiftLeft_eq]
theorem sg_mul (s : Bool) (n k : Nat) : sgF s n * (2 ^ k : Nat) = sgF s (n * 2 ^ k) := by
  unfold sgF
  cases s with
  | true => simp only [if_true]; rw [Int.neg_mul, Int.natCast_mul]
  | false => simp only [Bool.false_eq_true, if_false]; rw [Int.natCast_mul]
theorem cmp_scale (x y : Int) (k : Nat) : compare x y = compare (x * (2 ^ k : Nat)) (y * (2 ^ k : Nat)) := by
  have hp : (0 : Int) < ((2 ^ k : Nat) : Int) := Int.natCast_pos.2 (Nat.two_pow_pos k)
  exact cmp_congr ⟨fun h => Int.mul_lt_mul_of_pos_right h hp, fun h => Int.lt_of_mul_lt_mul_right h (Int.le_of_lt hp)⟩ ⟨fun h => by rw [h], fun h => Int.eq_of_mul_eq_mul_right (Int.ne_of_gt hp) h⟩
/-- a finite word: its number, in units of the least -/
theorem read_fin {n : Nat} (h : rgF n < infR) : ∃ m i, Ieee.double.read n = .number (ngF n) m i ∧ -1074 ≤ i ∧ m * 2 ^ (i + 1074).toNat = valF (rgF n) := by
  have hr : Ieee.double.read n = (if rgF n < bnd then .number (ngF n) (rgF n) (-1074) else if rgF n < infR then .number (ngF n) (bnd + rgF n % bnd) (-1074 + (rgF n / bnd - 1 : Nat)) else if rgF n = infR then .infinity (ngF n) else .nan (ngF n) (rgF n - infR)) := rfl
  rw [hr]
  by_cases hb : rgF n < bnd
  · rw [if_pos hb]
    refine ⟨_, _, rfl, Int.le_refl _, ?_⟩
    unfold valF
    rw [if_pos hb]
    simp
  · rw [if_neg hb, if_pos h]
    refine ⟨_, _, rfl, by omega, ?_⟩
    unfold valF
    rw [if_neg hb, show (-1074 + ((rgF n / bnd - 1 : Nat) : Int) + 1074).toNat = rgF n / bnd - 1 by omega]
theorem read_inf {n : Nat} (h : rgF n = infR) : Ieee.double.read n = .infinity (ngF n) := by
  have hr : Ieee.double.read n = (if rgF n < bnd then .number (ngF n) (rgF n) (-1074) else if rgF n < infR then .number (ngF n) (bnd + rgF n % bnd) (-1074 + (rgF n / bnd - 1 : Nat)) else if rgF n = infR then .infinity (ngF n) else .nan (ngF n) (rgF n - infR)) := rfl
  rw [hr, if_neg (by rw [h]; decide), if_neg (by omega), if_pos h]
theorem read_nan {n : Nat} (h : infR < rgF n) : Ieee.double.read n = .nan (ngF n) (rgF n - infR) := by
  have hr : Ieee.double.read n = (if rgF n < bnd then .number (ngF n) (rgF n) (-1074) else if rgF n < infR then .number (ngF n) (bnd + rgF n % bnd) (-1074 + (rgF n / bnd - 1 : Nat)) else if rgF n = infR then .infinity (ngF n) else .nan (ngF n) (rgF n - infR)) := rfl
  have hb : bnd < infR := by decide
  rw [hr, if_neg (by omega), if_neg (by omega), if_neg (by omega)]
theorem rk_sg (n : Nat) : rkF n = sgF (ngF n) (rgF n) := rfl
theorem sg_cmp (s t : Bool) (a b : Nat) : compare (sgF s (valF a)) (sgF t (valF b)) = compare (sgF s a) (sgF t b) := by
  have h1 := @valF_lt a b
  have h2 := @valF_lt b a
  have h3 := @valF_inj a b
  have h4 := @valF_inj a 0
  have h5 := @valF_inj b 0
  rw [valF_zero] at h4 h5
  unfold sgF
  cases s <;> cases t <;> simp only [if_true, Bool.false_eq_true, if_false] <;> exact cmp_congr (by omega) (by omega)
theorem ordF_fin {a b : Nat} (ha : rgF a < infR) (hb : rgF b < infR) : Ieee.double.order a b = some (compare (rkF a) (rkF b)) := by
  obtain ⟨m, i, e1, e2, e3⟩ := read_fin ha
  obtain ⟨n, j, f1, f2, f3⟩ := read_fin hb
  unfold Ieee.Format.order
  rw [e1, f1]
  show some (compare (Ieee.signed (ngF a) m (i - min i j).toNat) (Ieee.signed (ngF b) n (j - min i j).toNat)) = _
  rw [signed_sg, signed_sg, cmp_scale _ _ (min i j + 1074).toNat, sg_mul, sg_mul, Nat.mul_assoc, Nat.mul_assoc, ← Nat.pow_add, ← Nat.pow_add,
    show (i - min i j).toNat + (min i j + 1074).toNat = (i + 1074).toNat by omega, show (j - min i j).toNat + (min i j + 1074).toNat = (j + 1074).toNat by omega, e3, f3, sg_cmp]
  rfl
theorem ordF {a b : Nat} (ha : rgF a ≤ infR) (hb : rgF b ≤ infR) : Ieee.double.order a b = some (compare (rkF a) (rkF b)) := by
  rcases Nat.lt_or_eq_of_le ha with ha | ha
  · rcases Nat.lt_or_eq_of_le hb with hb | hb
    · exact ordF_fin ha hb
    · obtain ⟨m, i, e1, _, _⟩ := read_fin ha
      unfold Ieee.Format.order
      rw [e1, read_inf hb, rk_sg, rk_sg, hb]
      show some (if ngF b = true then Ordering.gt else .lt) = _
      congr 1
      show _ = compareOfLessAndEq _ _
      unfold compareOfLessAndEq sgF
      cases ngF a <;> cases ngF b <;> simp only [if_true, Bool.false_eq_true, if_false]
      · rw [if_pos (by omega)]
      · rw [if_neg (by omega), if_neg (by omega)]
      · rw [if_pos (by omega)]
      · rw [if_neg (by omega), if_neg (by omega)]
  · rcases Nat.lt_or_eq_of_le hb with hb | hb
    · obtain ⟨m, i, e1, _, _⟩ := read_fin hb
      unfold Ieee.Format.order
      rw [e1, read_inf ha, rk_sg, rk_sg, ha]
      show some (if ngF a = true then Ordering.lt else .gt) = _
      congr 1
      show _ = compareOfLessAndEq _ _
      unfold compareOfLessAndEq sgF
      cases ngF a <;> cases ngF b <;> simp only [if_true, Bool.false_eq_true, if_false]
      · rw [if_neg (by omega), if_neg (by omega)]
      · rw [if_neg (by omega), if_neg (by omega)]
      · rw [if_pos (by omega)]
      · rw [if_pos (by omega)]
    · unfold Ieee.Format.order
      rw [read_inf ha, read_inf hb, rk_sg, rk_sg, ha, hb]
      cases ngF a <;> cases ngF b <;> rfl
theorem ordF_nan {a b : Nat} (h : infR < rgF a ∨ infR < rgF b) : Ieee.double.order a b = none := by
  unfold Ieee.Format.order
  rcases h with h | h
  · rw [read_nan h]
    rfl
  · rw [read_nan h]
    cases Ieee.double.read a <;> rfl
end Go.Proofs.YtcdifgacoleckaaDoor.Ab
