/- The walk of SlotsRooted: it returns true, and nothing that was there is turned. -/
import Derived.Test.YtphaholcndhonaaDoorAbEnc
import Derived.Test.YtphaholcndhonaaDoorTLRt
namespace Go.Proofs.YtphaholcndhonaaDoor
open Go.ChangeShapes Go.WideShapes Go.ChangeAt Go.RowKit Go.Deep Go.Proofs.YtphaholcndhonaaDoor.Ab

theorem sum_mem : ∀ {l : List Nat} {x : Nat}, x ∈ l → x ≤ l.sum
  | y :: l, x, h => by
    rw [List.sum_cons]
    rcases List.mem_cons.1 h with rfl | h
    · exact Nat.le_add_right ..
    · exact Nat.le_trans (sum_mem h) (Nat.le_add_left ..)
theorem small_of (rs : LL) (h : (cSlice (cSlice cByte)).bulk rs ≤ 1048576) : smallL rs := fun r hr => by
  have h1 : (rs.map (cSlice cByte).bulk).sum + 1 ≤ 1048576 := h
  have h2 := sum_mem (List.mem_map_of_mem (f := (cSlice cByte).bulk) hr)
  rw [bulk_bytes] at h2
  omega
theorem walkSlotsRooted (W : World) (x0 : Int) (a0 : Int) (h0 : (cInt .i64).rel W (lt W.heap.size) (.int .i64 x0 : Value).cells.toList a0) (A1 : Option Addr) (n1 c1 : Nat) (a1 : (List Bool)) (h1 : (cSlice cBool).rel W (lt W.heap.size) (.slice A1 n1 c1 : Value).cells.toList a1) (x2 : Array Value) (a2 : ((List (Bool × ((List UInt8) × ((List UInt8) × Unit)))) × ((List (List UInt8)) × Unit))) (h2 : (cStruct (cCons (cSlice (cStruct (cCons cBool (cCons (cSlice cByte) (cCons (cSlice cByte) cEnd))))) (cCons (cSlice (cSlice cByte)) cEnd))).rel W (lt W.heap.size) (.agg x2 : Value).cells.toList a2) (hk : (cInt .i64).bulk a0 + (cSlice cBool).bulk a1 + (cStruct (cCons (cSlice (cStruct (cCons cBool (cCons (cSlice cByte) (cCons (cSlice cByte) cEnd))))) (cCons (cSlice (cSlice cByte)) cEnd))).bulk a2 ≤ 1048576) (hG : ∀ x ∈ gK, RepD p0 (CI W anyI) W (.one (.eptr x.2)) (.pointer (some ⟨x.1, 0, none⟩))) :
    Calls Tryd.prog 3 #[.int .i64 x0, .slice A1 n1 c1, .agg x2] W fun e W' => e = .returned (.bool true) ∧ Below W.heap.size W W' := by
  have hk' : (cInt .i64).bulk a0 + (cSlice cBool).bulk a1 + (((cSlice (cStruct (cCons cBool (cCons (cSlice cByte) (cCons (cSlice cByte) cEnd))))).bulk a2.1 + ((cSlice (cSlice cByte)).bulk a2.2.1 + 0)) + 1) ≤ 1048576 := hk
  refine law_trueG (rooted_fn a0 a1 a2.1 a2.2.1 (small_of a2.2.1 (by omega))) hG ⟨rfl, fun i d v hd hv => ?_⟩
  match i, hd, hv with
  | 0, hd, hv => cases Option.some.inj hd; cases Option.some.inj hv; exact arg_one (e := eI) (enc_int .i64) h0
  | 1, hd, hv => cases Option.some.inj hd; cases Option.some.inj hv; exact arg_one (e := eBools) (enc_slice (enc_bool)) h1
  | 2, hd, hv => cases Option.some.inj hd; cases Option.some.inj hv; exact arg_agg (e := fun x => cvE x.1 x.2.1) (enc_struct (enc_cons (enc_slice (e := eS) (enc_struct (enc_cons (enc_bool) (enc_cons (enc_slice (enc_byte)) (enc_cons (enc_slice (enc_byte)) (enc_end)))))) (enc_cons (enc_slice (enc_slice (enc_byte))) (enc_end)))) h2
  | n + 3, hd, hv => cases hd

end Go.Proofs.YtphaholcndhonaaDoor
