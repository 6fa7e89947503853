/- The walk of OracleFrames: it returns true, and nothing that was there is turned. -/
import Derived.Test.YtbpibblidokhfaaFrameFW
namespace Go.Proofs.Ytbpibblidokhfaa
open Go.ChangeShapes Go.WideShapes Go.ChangeAt Go.RowKit Go.Deep

set_option maxHeartbeats 400000 in
theorem walkOracleFrames (W : World) (x0 : Int) (a0 : Int) (h0 : (cInt .i64).rel W (lt W.heap.size) (.int .i64 x0 : Value).cells.toList a0) (A1 : Option Addr) (n1 c1 : Nat) (a1 : (List (List UInt8))) (h1 : (cSlice (cSlice cByte)).rel W (lt W.heap.size) (.slice A1 n1 c1 : Value).cells.toList a1) :
    Calls Try.prog 13 #[.int .i64 x0, .slice A1 n1 c1] W fun e W' => e = .returned (.bool true) ∧ Below W.heap.size W W' := by
  obtain ⟨A', n', cap', he', h11, h12, h13⟩ := h1
  simp [Value.cells] at he'
  obtain ⟨rfl, rfl, rfl⟩ := he'
  have C1 := Lib.hid (Frame_any W x0 A1 n1 c1 a1 h13)
  have C2 := Lib.hid (fun w (hb : Below W.heap.size W w) => FrameOf_any w x0 A1 n1 c1 a1 ((h13.below hb).up hb.size))
  clear h0 h11 h12 h13
  unfold Framed at C1 C2
  generalize frameF x0 a1 = f at C1 C2
  generalize frameV x0 a1 = xs at C1 C2
  go_enter Try.func13, Try.ntmps13
  go_wp2_with fail
  refine C1.out.mono ?_
  rintro e w1 ⟨hb1, v1, rfl, hs1⟩
  have S1 := Lib.hid hs1
  clear hs1
  go_wp2_with fail
  refine (C2.out _ hb1).mono ?_
  rintro e w2 ⟨hb2, v2, rfl, hs2⟩
  have S2 := Lib.hid hs2
  clear hs2
  go_wp2_with fail
  refine (sameBytes_any w2 v1 v2 xs (S1.out.below hb2) S2.out).mono ?_
  rintro e w3 ⟨rfl, rfl⟩
  go_wp2
  go_ret
  exact ⟨rfl, hb1.trans (hb2.mono hb1.size)⟩
end Go.Proofs.Ytbpibblidokhfaa
