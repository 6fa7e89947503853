/- The walks of value.And, value.Or and of the reference's Logic. No condition. -/
import Derived.Test.YtbpibblidokhfaaTruthsW
namespace Go.Proofs.Ytbpibblidokhfaa
open Go.ChangeShapes Go.WideShapes Go.ChangeAt Go.RowKit Go.Deep

theorem truthOf_two (x y : Int) : truthOf [x, y] = if (0 ≤ x ∧ x ≤ 2) ∧ 0 ≤ y ∧ y ≤ 2 then 0 else 2 := by
  unfold truthOf
  simp

set_option maxHeartbeats 400000 in
theorem and_any (x y : Int) (w : World) (hx : (Lit.int .i64 x).wf = true) (hy : (Lit.int .i64 y).wf = true) :
    Calls Try.prog 35 #[.int .i64 x, .int .i64 y] w fun e w' => e = .returned (.tuple #[.int .i64 (if (0 ≤ x ∧ x ≤ 2) ∧ 0 ≤ y ∧ y ≤ 2 then min x y else 0), .int .i64 (if (0 ≤ x ∧ x ≤ 2) ∧ 0 ≤ y ∧ y ≤ 2 then 0 else 2)]) ∧ Below w.heap.size w w' := by
  have HS := Lib.hid (slR_lit (k := .i64) w 3 [x, y] (by simp [hx, hy]))
  have hT := truthOf_two x y
  by_cases h : (0 ≤ x ∧ x ≤ 2) ∧ 0 ≤ y ∧ y ≤ 2
  · rw [if_pos h] at hT
    have HT := Lib.hid hT
    clear hT
    rw [if_pos h, if_pos h]
    obtain ⟨⟨h0, h2⟩, h3, h4⟩ := h
    go_enter Try.func35, Try.ntmps35
    go_wp2_with fail
    refine (truth_any _ _ _ _ _ [x, y] HS.out (by simp)).mono ?_
    rintro e w' ⟨rfl, rfl⟩
    rw [HT.out]
    go_wp2
    all_goals go_ret2
    all_goals exact ⟨ret2 (by omega) rfl, (Below.refl _ _).alloc (Nat.le_refl _) _⟩
  · rw [if_neg h] at hT
    have HT := Lib.hid hT
    clear hT
    rw [if_neg h, if_neg h]
    go_enter Try.func35, Try.ntmps35
    go_wp2_with fail
    refine (truth_any _ _ _ _ _ [x, y] HS.out (by simp)).mono ?_
    rintro e w' ⟨rfl, rfl⟩
    rw [HT.out]
    go_wp2
    go_ret2
    exact ⟨rfl, (Below.refl _ _).alloc (Nat.le_refl _) _⟩

set_option maxHeartbeats 400000 in
theorem or_any (x y : Int) (w : World) (hx : (Lit.int .i64 x).wf = true) (hy : (Lit.int .i64 y).wf = true) :
    Calls Try.prog 36 #[.int .i64 x, .int .i64 y] w fun e w' => e = .returned (.tuple #[.int .i64 (if (0 ≤ x ∧ x ≤ 2) ∧ 0 ≤ y ∧ y ≤ 2 then max x y else 0), .int .i64 (if (0 ≤ x ∧ x ≤ 2) ∧ 0 ≤ y ∧ y ≤ 2 then 0 else 2)]) ∧ Below w.heap.size w w' := by
  have HS := Lib.hid (slR_lit (k := .i64) w 3 [x, y] (by simp [hx, hy]))
  have hT := truthOf_two x y
  by_cases h : (0 ≤ x ∧ x ≤ 2) ∧ 0 ≤ y ∧ y ≤ 2
  · rw [if_pos h] at hT
    have HT := Lib.hid hT
    clear hT
    rw [if_pos h, if_pos h]
    obtain ⟨⟨h0, h2⟩, h3, h4⟩ := h
    go_enter Try.func36, Try.ntmps36
    go_wp2_with fail
    refine (truth_any _ _ _ _ _ [x, y] HS.out (by simp)).mono ?_
    rintro e w' ⟨rfl, rfl⟩
    rw [HT.out]
    go_wp2
    all_goals go_ret2
    all_goals exact ⟨ret2 (by omega) rfl, (Below.refl _ _).alloc (Nat.le_refl _) _⟩
  · rw [if_neg h] at hT
    have HT := Lib.hid hT
    clear hT
    rw [if_neg h, if_neg h]
    go_enter Try.func36, Try.ntmps36
    go_wp2_with fail
    refine (truth_any _ _ _ _ _ [x, y] HS.out (by simp)).mono ?_
    rintro e w' ⟨rfl, rfl⟩
    rw [HT.out]
    go_wp2
    go_ret2
    exact ⟨rfl, (Below.refl _ _).alloc (Nat.le_refl _) _⟩

set_option maxHeartbeats 400000 in
theorem isTruth_any (x : Int) (w : World) :
    Calls Try.prog 51 #[.int .i64 x] w fun e w' => e = .returned (.bool (decide (0 ≤ x ∧ x ≤ 2))) ∧ w = w' := by
  by_cases h0 : x = 0
  · subst h0
    go_enter Try.func51, Try.ntmps51
    go_wp2
    go_ret
    exact ⟨rfl, rfl⟩
  · by_cases h1 : x = 1
    · subst h1
      go_enter Try.func51, Try.ntmps51
      go_wp2
      go_ret
      exact ⟨rfl, rfl⟩
    · by_cases h2 : x = 2
      · subst h2
        go_enter Try.func51, Try.ntmps51
        go_wp2
        go_ret
        exact ⟨rfl, rfl⟩
      · have hd : decide (0 ≤ x ∧ x ≤ 2) = false := by simp; omega
        rw [hd]
        clear hd
        go_enter Try.func51, Try.ntmps51
        go_wp2
        go_ret
        exact ⟨by simp [h0, h1, h2], rfl⟩

set_option maxHeartbeats 400000 in
theorem logic_bad (op x y : Int) (w : World) (h : ¬ ((0 ≤ x ∧ x ≤ 2) ∧ 0 ≤ y ∧ y ≤ 2)) :
    Calls Try.prog 37 #[.int .i64 op, .int .i64 x, .int .i64 y] w fun e w' => e = .returned (.tuple #[.int .i64 0, .int .i64 2]) ∧ w = w' := by
  by_cases hx : 0 ≤ x ∧ x ≤ 2
  · have hy : decide (0 ≤ y ∧ y ≤ 2) = false := by simp; omega
    have hx' : decide (0 ≤ x ∧ x ≤ 2) = true := by simpa using hx
    have h1 := isTruth_any x w
    have h2 := isTruth_any y w
    rw [hx'] at h1
    rw [hy] at h2
    have H1 := Lib.hid h1
    have H2 := Lib.hid h2
    clear h1 h2 hx hy hx' h
    go_enter Try.func37, Try.ntmps37
    go_wp2_with fail
    refine H1.out.mono ?_
    rintro e w' ⟨rfl, rfl⟩
    go_wp2_with fail
    refine H2.out.mono ?_
    rintro e w' ⟨rfl, rfl⟩
    go_wp2
    go_ret2
    exact ⟨rfl, rfl⟩
  · have hx' : decide (0 ≤ x ∧ x ≤ 2) = false := by simp; omega
    have h1 := isTruth_any x w
    rw [hx'] at h1
    have H1 := Lib.hid h1
    clear h1 hx hx' h
    go_enter Try.func37, Try.ntmps37
    go_wp2_with fail
    refine H1.out.mono ?_
    rintro e w' ⟨rfl, rfl⟩
    go_wp2
    go_ret2
    exact ⟨rfl, rfl⟩

set_option maxHeartbeats 2000000 in
theorem logic_good (op x y : Int) (w : World) (hop : op = 1 ∨ op = 2) (h : (0 ≤ x ∧ x ≤ 2) ∧ 0 ≤ y ∧ y ≤ 2) :
    Calls Try.prog 37 #[.int .i64 op, .int .i64 x, .int .i64 y] w fun e w' => e = .returned (.tuple #[.int .i64 (if op = 1 then min x y else max x y), .int .i64 0]) ∧ w = w' := by
  obtain ⟨⟨h0, h2⟩, h3, h4⟩ := h
  have hx : x = 0 ∨ x = 1 ∨ x = 2 := by omega
  have hy : y = 0 ∨ y = 1 ∨ y = 2 := by omega
  clear h0 h2 h3 h4
  rcases hop with rfl | rfl <;> rcases hx with rfl | rfl | rfl <;> rcases hy with rfl | rfl | rfl <;>
  (go_enter Try.func37, Try.ntmps37; go_wp2; go_ret2; exact ⟨rfl, rfl⟩)

theorem logic_any (op x y : Int) (w : World) (hop : op = 1 ∨ op = 2) :
    Calls Try.prog 37 #[.int .i64 op, .int .i64 x, .int .i64 y] w fun e w' => e = .returned (.tuple #[.int .i64 (if (0 ≤ x ∧ x ≤ 2) ∧ 0 ≤ y ∧ y ≤ 2 then (if op = 1 then min x y else max x y) else 0), .int .i64 (if (0 ≤ x ∧ x ≤ 2) ∧ 0 ≤ y ∧ y ≤ 2 then 0 else 2)]) ∧ w = w' := by
  by_cases h : (0 ≤ x ∧ x ≤ 2) ∧ 0 ≤ y ∧ y ≤ 2
  · rw [if_pos h, if_pos h]
    exact logic_good op x y w hop h
  · rw [if_neg h, if_neg h]
    exact logic_bad op x y w h

set_option maxHeartbeats 400000 in
theorem walkTruthPairs (W : World) (x0 : Int) (a0 : Int) (h0 : (cInt .i64).rel W W.heap.size (.int .i64 x0 : Value).cells.toList a0) (x1 : Int) (a1 : Int) (h1 : (cInt .i64).rel W W.heap.size (.int .i64 x1 : Value).cells.toList a1) :
    Calls Try.prog 11 #[.int .i64 x0, .int .i64 x1] W fun e W' => e = .returned (.bool true) ∧ Below W.heap.size W W' := by
  obtain ⟨hx, hw⟩ := h0
  obtain rfl : a0 = x0 := by simpa [Value.cells] using hx.symm
  obtain ⟨hy, hw'⟩ := h1
  obtain rfl : a1 = x1 := by simpa [Value.cells] using hy.symm
  clear hx hy
  have C1 := Lib.hid (and_any a0 a1 W hw hw')
  have C2 := Lib.hid (fun W1 => or_any a0 a1 W1 hw hw')
  have C3 := Lib.hid (fun W1 => logic_any 1 a0 a1 W1 (.inl rfl))
  have C4 := Lib.hid (fun W1 => logic_any 2 a0 a1 W1 (.inr rfl))
  by_cases hv : (0 ≤ a0 ∧ a0 ≤ 2) ∧ 0 ≤ a1 ∧ a1 ≤ 2
  all_goals
    simp only [hv, if_true, if_false, and_self] at C1 C2 C3 C4
    go_enter Try.func11, Try.ntmps11
    go_wp2_with fail
    refine C1.out.mono ?_
    rintro e w1 ⟨rfl, hb1⟩
    go_wp2_with fail
    refine (C2.out _).mono ?_
    rintro e w2 ⟨rfl, hb2⟩
    go_wp2_with fail
    refine (C3.out _).mono ?_
    rintro e w3 ⟨rfl, rfl⟩
    go_wp2_with fail
    refine (C4.out _).mono ?_
    rintro e w4 ⟨rfl, rfl⟩
    go_wp2
    go_ret
    exact ⟨by simp, hb1.trans (hb2.mono hb1.size)⟩
end Go.Proofs.Ytbpibblidokhfaa
