/- The walk of TruthNots: it returns true, and nothing that was there is turned. -/
import Derived.Test.YtbpibblidokhfaaTruthsW
namespace Go.Proofs.Ytbpibblidokhfaa
open Go.ChangeShapes Go.WideShapes Go.ChangeAt Go.RowKit Go.Deep

theorem walkTruthNots (W : World) (x0 : Int) (a0 : Int) (h0 : (cInt .i64).rel W W.heap.size (.int .i64 x0 : Value).cells.toList a0) :
    Calls Try.prog 5 #[.int .i64 x0] W fun e W' => e = .returned (.bool true) ∧ Below W.heap.size W W' := by
  obtain ⟨hx, hw⟩ := h0
  obtain rfl : a0 = x0 := by simpa [Value.cells] using hx.symm
  clear hx
  by_cases hv : 0 ≤ a0 ∧ a0 ≤ 2
  · have H1 := not_any a0 W hw
    have H2 := fun W1 => opposite_any a0 W1
    rw [if_pos hv, if_pos hv] at H1
    simp only [if_pos hv] at H2
    have h1 := Lib.hid H1
    have h2 := Lib.hid H2
    clear H1 H2
    go_enter Try.func5, Try.ntmps5
    go_wp2_with fail
    refine h1.out.mono ?_
    rintro e w1 ⟨rfl, hb⟩
    go_wp2_with fail
    refine (h2.out _).mono ?_
    rintro e w2 ⟨rfl, rfl⟩
    go_wp2
    go_ret
    exact ⟨by simp, hb⟩
  · have H1 := not_any a0 W hw
    have H2 := fun W1 => opposite_any a0 W1
    rw [if_neg hv, if_neg hv] at H1
    simp only [if_neg hv] at H2
    have h1 := Lib.hid H1
    have h2 := Lib.hid H2
    clear H1 H2
    go_enter Try.func5, Try.ntmps5
    go_wp2_with fail
    refine h1.out.mono ?_
    rintro e w1 ⟨rfl, hb⟩
    go_wp2_with fail
    refine (h2.out _).mono ?_
    rintro e w2 ⟨rfl, rfl⟩
    go_wp2
    go_ret
    exact ⟨by simp, hb⟩

end Go.Proofs.Ytbpibblidokhfaa
